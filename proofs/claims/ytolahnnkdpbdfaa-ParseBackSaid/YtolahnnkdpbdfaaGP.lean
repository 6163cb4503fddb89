/-
  Layer 28: the tokens of a printed question, in plain Lean: each part is cut where it ends. No program is named here.
  Layer 28: a printed question is cut into the tokens of its parts, in plain Lean. No program is named here.
  Layer 28: a printed question is read back, in plain Lean. No program is named here.
  Layer 28: a question that was read may be, and is not too large, in plain Lean. No program is named here.
  Layer 28: are two lists of steps one? The program's walk (slices.Equal). No condition besides what lies where.
  Layer 28: are two commits one? The program's walk (Rev.same). No condition besides what lies where.
  Layer 28: are two questions one? The program's walk (slices.EqualFunc, Same). No condition besides what lies where.
  Layer 28: ParseSame, the law's walk. No condition besides MaxLen.
  Layer 28: ParseBack, the law's walk. No condition besides what lies where and MaxLen.
-/
import Derived.Test.YtolahnnkdpbdfaaGJ
import Derived.Test.YtolahnnkdpbdfaaGM
import Derived.Test.YtolahnnkdpbdfaaB1
import Derived.Test.YtolahnnkdpbdfaaGK
import Derived.Deep.RegionLaw
import Derived.Test.YtolahnnkdpbdfaaGI
import Derived.Test.YtolahnnkdpbdfaaGO
import Derived.Deep.DeepCutAuto
namespace Go.Prs
open Go.Lex Go.Gap
/-- what may follow a word -/
def En (y : List UInt8) : Prop := y = [] ∨ ∃ c z, y = c :: z ∧ (c = 32 ∨ c = 94 ∨ c = 126 ∨ (c = 46 ∧ z.head? = some 46))
theorem En.of_bl {y : List UInt8} (h : Bl y) : En y := by
  rcases h with rfl | ⟨z, rfl⟩
  · exact .inl rfl
  · exact .inr ⟨32, z, rfl, .inl rfl⟩
theorem wordG_En {y : List UInt8} (h : En y) : wordG y = 0 := by
  rcases h with rfl | ⟨c, z, rfl, h⟩
  · rfl
  · unfold wordG
    rw [if_neg]
    rintro (⟨h1, h2⟩ | h3)
    · rcases h with rfl | rfl | rfl | ⟨rfl, hz⟩
      · exact absurd h1 (by decide)
      · exact absurd h1 (by decide)
      · exact absurd h1 (by decide)
      · exact absurd (h2 46 hz) (by decide)
    · rcases h with rfl | rfl | rfl | ⟨rfl, hz⟩ <;> exact absurd h3 (by decide)
theorem wordG_all : ∀ s : List UInt8, rwG s = true → s.getLast? ≠ some 46 → ∀ y, En y → wordG (s ++ y) = s.length
  | [], _, _, y, hy => wordG_En hy
  | c :: s, h, hl, y, hy => by
    simp only [rwG, Bool.and_eq_true, Bool.or_eq_true, Bool.not_eq_true'] at h
    obtain ⟨⟨h1, h2⟩, h3⟩ := h
    have hls : s.getLast? ≠ some 46 := by
      cases s with
      | nil => simp
      | cons d s => simpa using hl
    have ih := wordG_all s h3 hls y hy
    simp only [List.cons_append, wordG, List.length_cons]
    rw [if_pos, ih]
    rcases h1 with h1 | h1
    · exact .inr h1
    · refine .inl ⟨h1, fun d hd => ?_⟩
      cases s with
      | nil =>
        exfalso; apply hl
        have : c = 46 := b46.2 ((isDot_iff c).1 h1)
        rw [this]; rfl
      | cons e s =>
        simp only [List.cons_append, List.head?_cons, Option.some.injEq] at hd
        subst hd
        rw [h1, Bool.true_and] at h2
        exact h2
/-- a word: its first byte tells that it is one -/
def Wd (s : List UInt8) : Prop := ∃ c r, s = c :: r ∧ c.toNat ≠ 32 ∧ c.toNat ≠ 94 ∧ c.toNat ≠ 126 ∧ c.toNat ≠ 123 ∧ c.toNat ≠ 45 ∧ c.toNat ≠ 46 ∧ rwG s = true ∧ s.getLast? ≠ some 46
theorem word_tok {s : List UInt8} (hw : Wd s) {y : List UInt8} (hy : En y) : one (s ++ y) = (1, s.length) := by
  obtain ⟨c, r, rfl, h1, h2, h3, h4, h5, h6, h7, h8⟩ := hw
  have hg := wordG_all _ h7 h8 y hy
  have hd : whileN isDot (c :: (r ++ y)) = 0 := by
    rw [whileN, if_neg]; intro h; exact h6 ((isDot_iff c).1 h)
  have hwd : word (c :: (r ++ y)) = (c :: r).length := by
    unfold word
    rw [if_neg]
    · exact hg
    · rintro (h | ⟨d, hd, hd2⟩)
      · cases h
      · simp only [List.head?_cons, Option.some.injEq] at hd
        subst hd; exact h5 hd2
  show one (c :: (r ++ y)) = _
  unfold one
  simp only
  rw [if_neg h1, if_neg h2, if_neg h3, if_neg h4, if_neg h5, hd, if_neg (by omega), if_neg (by omega), hwd]
theorem base_wd {s : List UInt8} (h : base s = true) : Wd s := by
  unfold base at h
  simp only [Bool.and_eq_true, decide_eq_true_eq] at h
  obtain ⟨⟨⟨h0, hk⟩, h1⟩, h2⟩ := h
  cases s with
  | nil => exact absurd rfl h0
  | cons c r =>
    have hw : rword (c :: r) = true := by
      unfold kind at hk
      by_cases hw : rword (c :: r) = true
      · exact hw
      · exfalso
        rw [Bool.not_eq_true] at hw
        rw [hw] at hk
        repeat' split at hk
        all_goals first | exact absurd hk (by decide) | contradiction | (simp_all; done)
    have n1 : ∀ k, (k = 32 ∨ k = 94 ∨ k = 126 ∨ k = 123) → c.toNat ≠ k := fun k hk he => by
      have := word_no (c := c) (r := r) (by omega)
      rw [hw] at this; cases this
    have n2 : c.toNat ≠ 45 := fun he => by
      have := word_no45 (c := c) (r := r) he
      rw [hw] at this; cases this
    refine ⟨c, r, rfl, n1 32 (by simp), n1 94 (by simp), n1 126 (by simp), n1 123 (by simp), n2, ?_, ?_, ?_⟩
    · intro he
      apply h1
      rw [List.getElem?_cons_zero]
      rw [b46.2 he]
    · simp only [rword, Bool.and_eq_true] at hw
      exact hw.2
    · rw [List.getLast?_eq_getElem?]; exact h2
theorem digit_rw : ∀ s : List UInt8, s.all digit = true → rwG s = true ∧ s.getLast? ≠ some 46
  | [], _ => ⟨rfl, by simp⟩
  | c :: s, h => by
    rw [List.all_cons, Bool.and_eq_true] at h
    obtain ⟨i1, i2⟩ := digit_rw s h.2
    have hc : 48 ≤ c.toNat ∧ c.toNat ≤ 57 := by have := h.1; unfold digit at this; simpa using this
    have hd : isDot c = false := by unfold isDot; simp; omega
    have hi : inW c = true := by unfold inW; simp [h.1]
    refine ⟨by simp only [rwG, hi, hd, i1]; rfl, ?_⟩
    cases s with
    | nil =>
      simp only [List.getLast?_singleton, ne_eq, Option.some.injEq]
      intro e; rw [e] at hc; exact absurd hc.1 (by decide)
    | cons d s => simpa using i2
theorem digit_wd {s : List UInt8} (h : s.all digit = true) (h0 : s ≠ []) : Wd s := by
  obtain ⟨i1, i2⟩ := digit_rw s h
  cases s with
  | nil => exact absurd rfl h0
  | cons c r =>
    rw [List.all_cons, Bool.and_eq_true] at h
    have hc : 48 ≤ c.toNat ∧ c.toNat ≤ 57 := by have := h.1; unfold digit at this; simpa using this
    exact ⟨c, r, rfl, by omega, by omega, by omega, by omega, by omega, by omega, i1, i2⟩
theorem ud_nat {d : Nat} (h : d < 10) : (ud d).toNat = 48 + d := by unfold ud; rw [UInt8.toNat_ofNat']; omega
theorem ud_digit {d : Nat} (h : d < 10) : digit (ud d) = true := by unfold digit; rw [ud_nat h]; simp; omega
theorem dgN_digit {m : Nat} (h : m ≤ 9999) : (dgN m).all digit = true ∧ dgN m ≠ [] := by
  unfold dgN
  repeat' split
  all_goals simp only [List.all_cons, List.all_nil, Bool.and_true, Bool.and_eq_true, ne_eq, reduceCtorEq, not_false_eq_true, and_true]
  · exact ud_digit (by omega)
  · exact ⟨ud_digit (by omega), ud_digit (by omega)⟩
  · exact ⟨ud_digit (by omega), ud_digit (by omega), ud_digit (by omega)⟩
  · exact ⟨ud_digit (by omega), ud_digit (by omega), ud_digit (by omega), ud_digit (by omega)⟩
theorem while_stop {p : UInt8 → Bool} {c : UInt8} (hc : p c = false) (y : List UInt8) : ∀ w : List UInt8, w.all p = true → whileN p (w ++ c :: y) = w.length
  | [], _ => by simp [whileN, hc]
  | d :: w, h => by
    rw [List.all_cons, Bool.and_eq_true] at h
    simp only [List.cons_append, whileN, h.1, if_true, while_stop hc y w h.2, List.length_cons]
theorem brace_tok {w : List UInt8} (h : w.all letter = true) (y : List UInt8) : one ((123 :: (w ++ [125])) ++ y) = (7, (123 :: (w ++ [125])).length) := by
  have hw := while_stop (p := letter) (c := 125) (by decide) y w h
  have hb : brace (123 :: (w ++ 125 :: y)) = w.length + 2 := by
    unfold brace
    simp only [List.drop_succ_cons, List.drop_zero, hw, List.getElem?_cons_succ]
    rw [if_pos]
    rw [List.getElem?_append_right (Nat.le_refl _), Nat.sub_self]; rfl
  have e : (123 :: (w ++ [125])) ++ y = 123 :: (w ++ 125 :: y) := by simp
  rw [e]
  have : one (123 :: (w ++ 125 :: y)) = (7, brace (123 :: (w ++ 125 :: y))) := rfl
  rw [this, hb]; simp
theorem two_tok {c : UInt8} {z : List UInt8} (hc : c ≠ 46) : one ([46, 46] ++ c :: z) = (5, 2) := by
  have h : whileN isDot (46 :: 46 :: c :: z) = 2 := by
    have : isDot c = false := by rw [Bool.eq_false_iff]; intro h; exact hc (b46.2 ((isDot_iff c).1 h))
    simp [whileN, this, show isDot 46 = true by decide]
  show one (46 :: 46 :: c :: z) = _
  unfold one
  simp only
  rw [h]; rfl
theorem three_tok (z : List UInt8) : one ([46, 46, 46] ++ z) = (6, 3) := by
  have h : 3 ≤ whileN isDot (46 :: 46 :: 46 :: z) := by
    simp [whileN, show isDot 46 = true by decide]
  show one (46 :: 46 :: 46 :: z) = _
  unfold one
  simp only
  rw [if_pos h]; rfl
/-! ### kinds and texts -/
abbrev Wk := Nat × List UInt8
def cat (l : List Wk) : List UInt8 := (l.map (·.2)).flatten
theorem cat_app (l m : List Wk) : cat (l ++ m) = cat l ++ cat m := by unfold cat; simp
theorem cat_cons (t : Wk) (l : List Wk) : cat (t :: l) = t.2 ++ cat l := by unfold cat; simp
/-- each is cut where it ends -/
def Cut : List Wk → Prop
  | [] => True
  | t :: r => t.2 ≠ [] ∧ one (t.2 ++ cat r) = (t.1, t.2.length) ∧ Cut r
def kt (l : List Tok) : List Wk := l.map (fun t => (t.1, t.2.1))
theorem tk_cut : ∀ (r : List Wk) (f p c : Nat), Cut r → (cat r).length < f → (∃ q, tkG one f (cat r) p c = .error (q, 5)) ∨ (∃ l, tkG one f (cat r) p c = .ok l ∧ kt l = r ++ [(9, [])])
  | [], f, p, c, _, hf => by
    show (∃ q, tkG one f [] p c = .error (q, 5)) ∨ _
    rw [tk_end (by simp [cat] at hf; omega)]
    show _ ∨ (∃ l, tkG one f [] p c = .ok l ∧ _)
    rw [tk_end (by simp [cat] at hf; omega)]
    by_cases h : c = 60
    · rw [if_pos h]; exact .inl ⟨p, rfl⟩
    · rw [if_neg h]; exact .inr ⟨_, rfl, rfl⟩
  | t :: r, f, p, c, h, hf => by
    obtain ⟨h1, h2, h3⟩ := h
    have hlen : 0 < t.2.length := List.length_pos_iff.2 h1
    rw [cat_cons] at hf ⊢
    rw [List.length_append] at hf
    obtain ⟨f, rfl⟩ : ∃ g, f = g + 1 := ⟨f - 1, by omega⟩
    have hne : t.2 ++ cat r ≠ [] := by simp [h1]
    rw [tk_step hne h2, if_neg (by omega)]
    by_cases hc : c = 60
    · rw [if_pos hc]; exact .inl ⟨p, rfl⟩
    · rw [if_neg hc]
      have e1 : (t.2 ++ cat r).drop t.2.length = cat r := by simp
      have e2 : (t.2 ++ cat r).take t.2.length = t.2 := by simp
      rw [e1, e2]
      rcases tk_cut r f (p + t.2.length) (c + 1) h3 (by omega) with ⟨q, hq⟩ | ⟨l, hq, hk⟩
      · rw [hq]; exact .inl ⟨q, rfl⟩
      · rw [hq]; exact .inr ⟨_, rfl, by simp only [kt, List.map_cons, List.cons_append]; rw [← hk]; rfl⟩
end Go.Prs

namespace Go.Prs
open Go.Lex Go.Gap
def numW (n : Int) : List Wk := if n = 1 then [] else [(1, dg n)]
def stWk (s : St) : List Wk := if s.k = 1 then (3, [94]) :: numW s.n else if s.k = 2 then (4, [126]) :: numW s.n else [(3, [94]), (7, 123 :: (s.w ++ [125]))]
def stW (l : List St) : List Wk := l.flatMap stWk
def rvW (r : Rv) : List Wk := (1, r.b) :: stW r.st
def itW (x : It) : List Wk :=
  if x.k = 1 then (if x.nt then (3, [94]) :: rvW x.a else rvW x.a) else
  rvW x.a ++ ((if x.k = 3 then (6, [46, 46, 46]) else (5, [46, 46])) :: rvW x.b)
def itPW (x : It) : List (List Wk) := if x.k = 1 then [itW x] else if x.nt then [[(2, bNot)], itW x, [(2, bNot)]] else [itW x]
def addW (b : Bool) (s : List UInt8) (l : List (List Wk)) : List (List Wk) := if b = true then l ++ [[(2, s)]] else l
def flW (q : Qy) : List (List Wk) :=
  addW q.rv bRev (addW q.fi bFirst (addW (decide (0 < q.sk)) (bSkip ++ dg q.sk) (addW (decide (0 ≤ q.mx)) (bMax ++ dg (max q.mx 0)) (addW (q.od == 2) bTime (addW (q.od == 1) bTopo [])))))
def ptsW (q : Qy) : List (List Wk) := flW q ++ q.its.flatMap itPW
def bW (ps : List (List Wk)) : List Wk := ps.flatMap (fun p => (8, [32]) :: p)
/-! ### the texts -/
theorem cat_stWk {s : St} (h : okSt s = true) : cat (stWk s) = stT s := by
  have hk := okSt_n h
  unfold stWk stT numW num
  split
  · split <;> simp [cat]
  · split
    · split <;> simp [cat]
    · rw [if_pos (by omega)]; simp [cat]
theorem cat_stW : ∀ l : List St, l.all okSt = true → cat (stW l) = (l.map stT).flatten
  | [], _ => rfl
  | s :: l, h => by
    rw [List.all_cons, Bool.and_eq_true] at h
    unfold stW
    rw [List.flatMap_cons, cat_app, cat_stWk h.1]
    have := cat_stW l h.2
    unfold stW at this
    rw [this]; simp
theorem cat_rvW {r : Rv} (h : r.st.all okSt = true) : cat (rvW r) = rvT r := by
  unfold rvW rvT; rw [cat_cons, cat_stW _ h]
theorem okIt_parts {x : It} (h : okIt x = true) : (x.k = 1 ∨ x.k = 2 ∨ x.k = 3) ∧ okRv x.a = true ∧ (x.k ≠ 1 → okRv x.b = true) ∧ (x.k = 1 → x.b = zRv) := by
  unfold okIt at h
  rw [Bool.and_eq_true, Bool.and_eq_true, decide_eq_true_iff] at h
  refine ⟨by omega, h.1.2, fun hk => ?_, fun hk => ?_⟩
  · have := h.2; rw [if_neg hk] at this; exact this
  · have := h.2; rw [if_pos hk] at this; exact of_decide_eq_true this
theorem okRv_parts {r : Rv} (h : okRv r = true) : base r.b = true ∧ r.st.all okSt = true := by
  unfold okRv at h; rwa [Bool.and_eq_true] at h
theorem cat_itPW {x : It} (h : okIt x = true) : (itPW x).map cat = itP x := by
  obtain ⟨hk, ha, hb, _⟩ := okIt_parts h
  have e1 := cat_rvW (okRv_parts ha).2
  have c2 : ∀ s, cat [((2 : Nat), s)] = s := fun s => by simp [cat]
  unfold itPW itP itS itW
  by_cases h1 : x.k = 1
  · rw [if_pos h1, if_pos h1, if_pos h1]
    cases x.nt
    · simp [e1]
    · simp [cat_cons, e1]
  · have e2 := cat_rvW (okRv_parts (hb h1)).2
    rw [if_neg h1, if_neg h1, if_neg h1]
    by_cases h3 : x.k = 3
    · rw [if_pos h3, if_pos h3]
      cases x.nt <;> simp [cat_app, cat_cons, e1, e2, c2]
    · rw [if_neg h3, if_neg h3]
      cases x.nt <;> simp [cat_app, cat_cons, e1, e2, c2]
theorem map_addW (b : Bool) (s : List UInt8) (l : List (List Wk)) : (addW b s l).map cat = add b s (l.map cat) := by
  unfold addW add
  cases b <;> simp [cat]
theorem map_flW (q : Qy) : (flW q).map cat = fl q := by
  unfold flW fl
  rw [map_addW, map_addW, map_addW, map_addW, map_addW, map_addW]; rfl
theorem map_its : ∀ l : List It, l.all okIt = true → (l.flatMap itPW).map cat = l.flatMap itP
  | [], _ => rfl
  | x :: l, h => by
    rw [List.all_cons, Bool.and_eq_true] at h
    rw [List.flatMap_cons, List.map_append, cat_itPW h.1, map_its l h.2, List.flatMap_cons]
theorem map_ptsW {q : Qy} (h : okQy q = true) : (ptsW q).map cat = pts q q.its.length := by
  unfold okQy at h
  rw [Bool.and_eq_true] at h
  unfold ptsW pts
  rw [List.map_append, map_flW, map_its _ h.1, List.take_length]
theorem cat_bW : ∀ ps : List (List Wk), cat (bW ps) = bl (ps.map cat)
  | [] => rfl
  | p :: ps => by
    have := cat_bW ps
    unfold bW at this ⊢
    rw [List.flatMap_cons, cat_app, this, cat_cons]
    simp [bl]
/-! ### the cuts -/
theorem cut_numW {n : Int} (h : n.toNat ≤ 9999) {X : List Wk} (he : En (cat X)) (hc : Cut X) : Cut (numW n ++ X) ∧ En (cat (numW n ++ X)) ∨ Cut (numW n ++ X) := by
  right
  unfold numW
  split
  · exact hc
  · have hd := dgN_digit h
    exact ⟨hd.2, word_tok (digit_wd hd.1 hd.2) he, hc⟩
theorem cut_steps : ∀ l : List St, l.all okSt = true → ∀ X, En (cat X) → Cut X → Cut (stW l ++ X) ∧ En (cat (stW l ++ X))
  | [], _, X, he, hc => ⟨hc, he⟩
  | s :: l, h, X, he, hc => by
    rw [List.all_cons, Bool.and_eq_true] at h
    obtain ⟨i1, i2⟩ := cut_steps l h.2 X he hc
    have hs := okSt_n h.1
    have hnum : Cut (numW s.n ++ (stW l ++ X)) := (cut_numW hs.2.2.1 i2 i1).elim (fun h => h.1) id
    have e : stW (s :: l) ++ X = stWk s ++ (stW l ++ X) := by unfold stW; rw [List.flatMap_cons, List.append_assoc]
    rw [e]
    unfold stWk
    split
    · exact ⟨⟨by simp, rfl, hnum⟩, .inr ⟨94, _, rfl, .inr (.inl rfl)⟩⟩
    · split
      · exact ⟨⟨by simp, rfl, hnum⟩, .inr ⟨126, _, rfl, .inr (.inr (.inl rfl))⟩⟩
      · have hw : s.w.all letter = true := by
          have := h.1
          unfold okSt at this; rw [Bool.and_eq_true] at this; exact this.2
        exact ⟨⟨by simp, rfl, by simp, brace_tok hw _, i1⟩, .inr ⟨94, _, rfl, .inr (.inl rfl)⟩⟩
theorem cut_rev {r : Rv} (h : okRv r = true) {X : List Wk} (he : En (cat X)) (hc : Cut X) : Cut (rvW r ++ X) ∧ ∃ c z, cat (rvW r ++ X) = c :: z ∧ c ≠ 32 ∧ c ≠ 46 := by
  obtain ⟨hb, hs⟩ := okRv_parts h
  obtain ⟨i1, i2⟩ := cut_steps r.st hs X he hc
  have hw := base_wd hb
  have hn : r.b ≠ [] := by obtain ⟨c, z, e, _⟩ := hw; rw [e]; simp
  have hone := word_tok hw i2
  refine ⟨⟨hn, hone, i1⟩, ?_⟩
  obtain ⟨c, z, e, h1, _, _, _, _, h6, _⟩ := hw
  refine ⟨c, z ++ cat (stW r.st ++ X), ?_, fun e => h1 (by rw [e]; rfl), fun e => h6 (by rw [e]; rfl)⟩
  unfold rvW
  rw [List.cons_append, cat_cons]
  show r.b ++ _ = _
  rw [e]; rfl
theorem cut_it {x : It} (h : okIt x = true) {X : List Wk} (he : Bl (cat X)) (hc : Cut X) : Cut (itW x ++ X) ∧ ∃ c z, cat (itW x ++ X) = c :: z ∧ c ≠ 32 := by
  obtain ⟨hk, ha, hb, _⟩ := okIt_parts h
  unfold itW
  by_cases h1 : x.k = 1
  · rw [if_pos h1]
    obtain ⟨i1, c, z, i2, i3, _⟩ := cut_rev ha (En.of_bl he) hc
    cases x.nt
    · exact ⟨i1, c, z, i2, i3⟩
    · exact ⟨⟨by simp, rfl, i1⟩, 94, _, rfl, by decide⟩
  · rw [if_neg h1]
    obtain ⟨i1, c, z, i2, i3, i4⟩ := cut_rev (hb h1) (En.of_bl he) hc
    by_cases h3 : x.k = 3
    · rw [if_pos h3, List.append_assoc, List.cons_append]
      have hcut : Cut ((6, [46, 46, 46]) :: (rvW x.b ++ X)) := ⟨by simp, three_tok _, i1⟩
      obtain ⟨j1, d, y, j2, j3, _⟩ := cut_rev ha (X := (6, [46, 46, 46]) :: (rvW x.b ++ X)) (.inr ⟨46, _, rfl, .inr (.inr (.inr ⟨rfl, rfl⟩))⟩) hcut
      exact ⟨j1, d, y, j2, j3⟩
    · rw [if_neg h3, List.append_assoc, List.cons_append]
      have hcut : Cut ((5, [46, 46]) :: (rvW x.b ++ X)) := ⟨by simp, by rw [i2]; exact two_tok i4, i1⟩
      obtain ⟨j1, d, y, j2, j3, _⟩ := cut_rev ha (X := (5, [46, 46]) :: (rvW x.b ++ X)) (.inr ⟨46, _, rfl, .inr (.inr (.inr ⟨rfl, rfl⟩))⟩) hcut
      exact ⟨j1, d, y, j2, j3⟩
/-- a part: cut where it ends, ahead of a blank or the end -/
def Gp (p : List Wk) : Prop := ∀ X, Bl (cat X) → Cut X → Cut (p ++ X) ∧ ∃ c z, cat (p ++ X) = c :: z ∧ c ≠ 32
/-- a flag as it stands -/
def Fg (s : List UInt8) : Prop := Nb s ∧ one s = (2, s.length) ∧ s ≠ []
theorem gp_flag {s : List UInt8} (h : Fg s) : Gp [(2, s)] := by
  obtain ⟨h1, h2, h3⟩ := h
  intro X hb hc
  refine ⟨⟨h3, by show one (s ++ cat X) = _; rw [one_app hb h3 h1, h2], hc⟩, ?_⟩
  cases s with
  | nil => exact absurd rfl h3
  | cons c s => exact ⟨c, s ++ cat X, by simp [cat], h1 c (by simp)⟩
theorem nb_app {a b : List UInt8} (h1 : Nb a) (h2 : Nb b) : Nb (a ++ b) := fun c hc => by
  rcases List.mem_append.1 hc with h | h
  · exact h1 c h
  · exact h2 c h
theorem nb_digit {s : List UInt8} (h : s.all digit = true) : Nb s := fun c hc e => by
  have := List.all_eq_true.1 h c hc
  rw [e] at this; exact absurd this (by decide)
theorem while_dig {s : List UInt8} (h : s.all digit = true) : whileN digit s = s.length := by
  induction s with
  | nil => rfl
  | cons c s ih =>
    rw [List.all_cons, Bool.and_eq_true] at h
    simp only [whileN, h.1, if_true, ih h.2, List.length_cons]
theorem fg_max {m : Nat} (h : m ≤ 9999) : Fg (bMax ++ dgN m) := by
  obtain ⟨h1, h2⟩ := dgN_digit h
  have hl : 0 < (dgN m).length := List.length_pos_iff.2 h2
  refine ⟨nb_app (show ∀ c ∈ bMax, c ≠ (32 : UInt8) by decide) (nb_digit h1), ?_, by simp [bMax]⟩
  have hf : flag (bMax ++ dgN m) = 6 + (dgN m).length := by
    unfold flag
    rw [if_pos (by rfl)]
    have e : (bMax ++ dgN m).drop 2 = 109 :: 97 :: 120 :: 61 :: dgN m := rfl
    have w : whileN letter (109 :: 97 :: 120 :: 61 :: dgN m) = 3 := by simp [whileN, show letter 109 = true by decide, show letter 97 = true by decide, show letter 120 = true by decide, show letter 61 = false by decide]
    simp only [e, w]
    rw [if_neg (by omega), if_pos]
    · show 2 + (3 + (1 + whileN digit (dgN m))) = _
      rw [while_dig h1]; omega
    · exact ⟨rfl, by show 0 < whileN digit (dgN m); rw [while_dig h1]; exact hl⟩
  show (2, flag (bMax ++ dgN m)) = _
  rw [hf]; simp [bMax]; omega
theorem fg_skip {m : Nat} (h : m ≤ 9999) : Fg (bSkip ++ dgN m) := by
  obtain ⟨h1, h2⟩ := dgN_digit h
  have hl : 0 < (dgN m).length := List.length_pos_iff.2 h2
  refine ⟨nb_app (show ∀ c ∈ bSkip, c ≠ (32 : UInt8) by decide) (nb_digit h1), ?_, by simp [bSkip]⟩
  have hf : flag (bSkip ++ dgN m) = 7 + (dgN m).length := by
    unfold flag
    rw [if_pos (by rfl)]
    have e : (bSkip ++ dgN m).drop 2 = 115 :: 107 :: 105 :: 112 :: 61 :: dgN m := rfl
    have w : whileN letter (115 :: 107 :: 105 :: 112 :: 61 :: dgN m) = 4 := by simp [whileN, show letter 115 = true by decide, show letter 107 = true by decide, show letter 105 = true by decide, show letter 112 = true by decide, show letter 61 = false by decide]
    simp only [e, w]
    rw [if_neg (by omega), if_pos]
    · show 2 + (4 + (1 + whileN digit (dgN m))) = _
      rw [while_dig h1]; omega
    · exact ⟨rfl, by show 0 < whileN digit (dgN m); rw [while_dig h1]; exact hl⟩
  show (2, flag (bSkip ++ dgN m)) = _
  rw [hf]; simp [bSkip]; omega
theorem gp_addW {b : Bool} {s : List UInt8} {l : List (List Wk)} (hs : Fg s) (hl : ∀ p ∈ l, Gp p) : ∀ p ∈ addW b s l, Gp p := by
  unfold addW
  split
  · intro p hp
    rcases List.mem_append.1 hp with h | h
    · exact hl p h
    · rw [List.mem_singleton] at h; rw [h]; exact gp_flag hs
  · exact hl
theorem gp_pts {q : Qy} (h : okQy q = true) : ∀ p ∈ ptsW q, Gp p := by
  unfold okQy at h
  rw [Bool.and_eq_true, decide_eq_true_iff] at h
  intro p hp
  rcases List.mem_append.1 hp with hp | hp
  · refine gp_addW ⟨show ∀ c ∈ bRev, c ≠ (32 : UInt8) by decide, by decide +kernel, by simp [bRev]⟩ (gp_addW ⟨show ∀ c ∈ bFirst, c ≠ (32 : UInt8) by decide, by decide +kernel, by simp [bFirst]⟩ (gp_addW (fg_skip (by omega)) (gp_addW (fg_max (by omega)) (gp_addW ⟨show ∀ c ∈ bTime, c ≠ (32 : UInt8) by decide, by decide +kernel, by simp [bTime]⟩ (gp_addW ⟨show ∀ c ∈ bTopo, c ≠ (32 : UInt8) by decide, by decide +kernel, by simp [bTopo]⟩ (by simp)))))) p hp
  · obtain ⟨x, hx, hp⟩ := List.mem_flatMap.1 hp
    have ho := List.all_eq_true.1 h.1 x hx
    have hN : Gp [(2, bNot)] := gp_flag ⟨show ∀ c ∈ bNot, c ≠ (32 : UInt8) by decide, by decide +kernel, by simp [bNot]⟩
    have hI : Gp (itW x) := fun X hb hc => cut_it ho hb hc
    unfold itPW at hp
    split at hp
    · rw [List.mem_singleton] at hp; rw [hp]; exact hI
    · split at hp
      · simp only [List.mem_cons, List.not_mem_nil, or_false] at hp
        rcases hp with rfl | rfl | rfl
        · exact hN
        · exact hI
        · exact hN
      · rw [List.mem_singleton] at hp; rw [hp]; exact hI
theorem cut_parts : ∀ ps : List (List Wk), (∀ p ∈ ps, Gp p) → Cut (bW ps) ∧ Bl (cat (bW ps))
  | [], _ => ⟨trivial, .inl rfl⟩
  | p :: ps, h => by
    obtain ⟨i1, i2⟩ := cut_parts ps (fun p hp => h p (by simp [hp]))
    obtain ⟨j1, c, z, j2, j3⟩ := h p (by simp) (bW ps) i2 i1
    have e : bW (p :: ps) = (8, [32]) :: (p ++ bW ps) := by unfold bW; rw [List.flatMap_cons]; rfl
    rw [e]
    refine ⟨⟨by simp, ?_, j1⟩, .inr ⟨_, rfl⟩⟩
    rw [j2]
    exact one_gap (k := 1) (by omega) (y := c :: z) (by intro d hd; simp at hd; rw [← hd]; exact j3)
end Go.Prs

namespace Go.Prs
open Go.Lex Go.Gap
theorem kd_of {l : List Tok} {k : Nat} {x : List UInt8} {X : List Wk} (h : kt l = (k, x) :: X) : kd l = k ∧ tx l = x ∧ kt l.tail = X ∧ l ≠ [] := by
  cases l with
  | nil => cases h
  | cons t l =>
    simp only [kt, List.map_cons, List.cons.injEq, Prod.mk.injEq] at h
    exact ⟨h.1.1, h.1.2, h.2, by simp⟩
/-- what may follow steps -/
def Hd (R : List Wk) : Prop := ∃ k x X, R = (k, x) :: X ∧ (k = 5 ∨ k = 6 ∨ k = 8 ∨ k = 9)
/-- what may follow a part -/
def He (R : List Wk) : Prop := ∃ k x X, R = (k, x) :: X ∧ (k = 8 ∨ k = 9)
theorem He.hd {R : List Wk} (h : He R) : Hd R := by obtain ⟨k, x, X, e, h⟩ := h; exact ⟨k, x, X, e, by omega⟩
theorem count_dg {m : Nat} (h : m ≤ 9999) : count (dgN m) = (m, true) := by
  obtain ⟨h1, h2⟩ := dgN_digit h
  unfold count
  rw [if_pos ⟨h2, dgN_len m, h1⟩]
  congr 1
  unfold dgN
  repeat' split
  all_goals simp only [dec, List.foldl_cons, List.foldl_nil]
  · rw [ud_nat (by omega)]; omega
  · rw [ud_nat (by omega), ud_nat (by omega)]; omega
  · rw [ud_nat (by omega), ud_nat (by omega), ud_nat (by omega)]; omega
  · rw [ud_nat (by omega), ud_nat (by omega), ud_nat (by omega), ud_nat (by omega)]; omega
theorem head_steps {l : List St} {R : List Wk} (hR : Hd R) : ∃ k x X, stW l ++ R = (k, x) :: X ∧ (k = 3 ∨ k = 4 ∨ k = 5 ∨ k = 6 ∨ k = 8 ∨ k = 9) := by
  cases l with
  | nil => obtain ⟨k, x, X, e, h⟩ := hR; exact ⟨k, x, X, e, by omega⟩
  | cons s l =>
    unfold stW
    rw [List.flatMap_cons]
    unfold stWk
    split
    · exact ⟨3, _, _, rfl, by simp⟩
    · split
      · exact ⟨4, _, _, rfl, by simp⟩
      · exact ⟨3, _, _, rfl, by simp⟩
theorem inner_brace (w : List UInt8) : inner (123 :: (w ++ [125])) = w := by unfold inner; simp
theorem steps_of : ∀ (st : List St), st.all okSt = true → ∀ (l : List Tok) (R : List Wk), Hd R → kt l = stW st ++ R → ∃ l', kt l' = R ∧ ∀ f, l.length ≤ f → steps f l = .ok (st, l')
  | [], _, l, R, hR, h => by
    refine ⟨l, h, fun f _ => ?_⟩
    obtain ⟨k, x, X, e, hk⟩ := hR
    have := (kd_of (h.trans e)).1
    exact steps_end (by omega) (by omega)
  | s :: st, ho, l, R, hR, h => by
    rw [List.all_cons, Bool.and_eq_true] at ho
    have hs := okSt_n ho.1
    have hw : s.k < 3 → s.w = [] := by
      have := ho.1
      unfold okSt at this
      rw [Bool.and_eq_true, decide_eq_true_iff] at this
      exact this.1.2.2.2.2.2
    have h3n : s.k = 3 → s.n = 0 := by
      have := ho.1
      unfold okSt at this
      rw [Bool.and_eq_true, decide_eq_true_iff] at this
      exact this.1.2.2.2.2.1
    have e : kt l = stWk s ++ (stW st ++ R) := by rw [h]; unfold stW; rw [List.flatMap_cons, List.append_assoc]
    obtain ⟨yk, yx, Y, hY, hyk⟩ := head_steps (l := st) hR
    obtain ⟨sk, sn, sw⟩ := s
    simp only at hs hw h3n
    unfold stWk at e
    simp only at e
    -- the count behind a mark
    have hcnt : ∀ m : List Tok, kt m = numW sn ++ (stW st ++ R) → kd m ≠ 7 ∧ ∃ m', cnt m = .ok (sn.toNat, m') ∧ kt m' = stW st ++ R ∧ m'.length ≤ m.length := by
      intro m hm
      unfold numW at hm
      by_cases h1 : sn = 1
      · rw [if_pos h1, List.nil_append] at hm
        have hk := (kd_of (hm.trans hY)).1
        refine ⟨by omega, m, ?_, hm, Nat.le_refl _⟩
        unfold cnt
        rw [if_neg (by omega), h1]; rfl
      · rw [if_neg h1] at hm
        obtain ⟨i1, i2, i3, i4⟩ := kd_of hm
        refine ⟨by omega, m.tail, ?_, i3, by rw [List.length_tail]; omega⟩
        unfold cnt
        rw [if_pos i1, i2]
        unfold dg
        rw [count_dg hs.2.2.1]
        rfl
    by_cases k1 : sk = 1
    · rw [if_pos k1] at e
      obtain ⟨i1, i2, i3, i4⟩ := kd_of e
      obtain ⟨j1, m', j2, j3, j4⟩ := hcnt _ i3
      obtain ⟨l', q1, q2⟩ := steps_of st ho.2 m' R hR j3
      have hlt : l.tail.length + 1 = l.length := by rw [List.length_tail]; have := List.length_pos_iff.2 i4; omega
      refine ⟨l', q1, fun f hf => ?_⟩
      rw [steps_up hf i4 i1 j1 j2, q2 (f - 1) (by omega)]
      have : sw = [] := hw (by omega)
      subst this k1
      rw [← hs.2.2.2]; rfl
    · rw [if_neg k1] at e
      by_cases k2 : sk = 2
      · rw [if_pos k2] at e
        obtain ⟨i1, i2, i3, i4⟩ := kd_of e
        obtain ⟨j1, m', j2, j3, j4⟩ := hcnt _ i3
        obtain ⟨l', q1, q2⟩ := steps_of st ho.2 m' R hR j3
        have hlt : l.tail.length + 1 = l.length := by rw [List.length_tail]; have := List.length_pos_iff.2 i4; omega
        refine ⟨l', q1, fun f hf => ?_⟩
        rw [steps_back hf i4 i1 j2, q2 (f - 1) (by omega)]
        have : sw = [] := hw (by omega)
        subst this k2
        rw [← hs.2.2.2]; rfl
      · rw [if_neg k2] at e
        obtain ⟨i1, i2, i3, i4⟩ := kd_of e
        obtain ⟨j1, j2, j3, j4⟩ := kd_of i3
        obtain ⟨l', q1, q2⟩ := steps_of st ho.2 _ R hR j3
        have hlt : l.tail.length + 1 = l.length := by rw [List.length_tail]; have := List.length_pos_iff.2 i4; omega
        refine ⟨l', q1, fun f hf => ?_⟩
        rw [steps_peel hf i4 i1 j1, q2 (f - 1) (by rw [List.length_tail]; omega), j2, inner_brace]
        have k3 : sk = 3 := by omega
        have := h3n k3
        subst this k3
        rfl
theorem rev_of {r : Rv} (ho : okRv r = true) {l : List Tok} {R : List Wk} (hR : Hd R) (h : kt l = rvW r ++ R) : ∃ l', kt l' = R ∧ rev l = .ok (r, l') := by
  obtain ⟨hb, hs⟩ := okRv_parts ho
  obtain ⟨i1, i2, i3, i4⟩ := kd_of h
  obtain ⟨l', q1, q2⟩ := steps_of r.st hs l.tail R hR i3
  refine ⟨l', q1, ?_⟩
  unfold rev
  rw [if_pos ⟨i1, by rw [i2]; exact hb⟩, q2 l.length (by rw [List.length_tail]; omega), i2]
theorem itm_one {x : It} (ho : okIt x = true) (h1 : x.k = 1) {l : List Tok} {R : List Wk} (hR : He R) (h : kt l = itW x ++ R) : (kd l = 1 ∨ kd l = 3) ∧ ∃ l', kt l' = R ∧ item false l = .ok (x, l') := by
  obtain ⟨_, ha, _, hz'⟩ := okIt_parts ho
  have hz := hz' h1
  clear hz'
  obtain ⟨xk, xa, xb, xn⟩ := x
  simp only at h1 hz ha
  subst h1 hz
  unfold itW at h
  rw [if_pos rfl] at h
  obtain ⟨rk, rx, RX, re, rh⟩ := hR
  cases xn
  · simp only [Bool.false_eq_true, if_false] at h
    obtain ⟨l', q1, q2⟩ := rev_of ha (He.hd ⟨rk, rx, RX, re, rh⟩) h
    have i1 := (kd_of h).1
    have j1 := (kd_of (q1.trans re)).1
    refine ⟨.inl i1, l', q1, ?_⟩
    have d0 : dots l = 0 := by unfold dots; rw [if_neg (by omega), if_neg (by omega)]
    have d1 : dots l' = 0 := by unfold dots; rw [if_neg (by omega), if_neg (by omega)]
    unfold item
    rw [if_neg (by omega), if_pos d0, q2]
    simp only [d1, if_true]
  · simp only [if_true] at h
    obtain ⟨i1, i2, i3, i4⟩ := kd_of h
    obtain ⟨l', q1, q2⟩ := rev_of ha (He.hd ⟨rk, rx, RX, re, rh⟩) i3
    refine ⟨.inr i1, l', q1, ?_⟩
    unfold item
    rw [if_pos i1, q2]; rfl
theorem itm_two {x : It} (ho : okIt x = true) (h1 : x.k ≠ 1) {l : List Tok} {R : List Wk} (hR : He R) (h : kt l = itW x ++ R) : kd l = 1 ∧ ∃ l', kt l' = R ∧ item x.nt l = .ok (x, l') := by
  obtain ⟨hk, ha, hb, _⟩ := okIt_parts ho
  have hb := hb h1
  obtain ⟨xk, xa, xb, xn⟩ := x
  simp only at h1 ha hb hk ⊢
  unfold itW at h
  simp only at h
  rw [if_neg h1, List.append_assoc, List.cons_append] at h
  have hD : Hd ((if xk = 3 then ((6 : Nat), [46, 46, 46]) else (5, [46, 46])) :: (rvW xb ++ R)) := by
    split
    · exact ⟨6, _, _, rfl, by simp⟩
    · exact ⟨5, _, _, rfl, by simp⟩
  obtain ⟨r, q1, q2⟩ := rev_of ha hD h
  have i1 := (kd_of h).1
  have hr : ∃ x0, kt r = ((if xk = 3 then 6 else 5 : Nat), x0) :: (rvW xb ++ R) := by
    rw [q1]; split
    · exact ⟨_, rfl⟩
    · exact ⟨_, rfl⟩
  obtain ⟨x0, hr⟩ := hr
  obtain ⟨j1, _, j3, _⟩ := kd_of hr
  obtain ⟨l', p1, p2⟩ := rev_of hb hR.hd j3
  have m1 := (kd_of j3).1
  refine ⟨i1, l', p1, ?_⟩
  have d0 : dots l = 0 := by unfold dots; rw [if_neg (by omega), if_neg (by omega)]
  have d1 : (dots r : Int) = xk ∧ dots r ≠ 0 := by
    unfold dots
    rcases hk with hk | hk | hk
    · exact absurd hk h1
    · subst hk
      rw [if_neg (by decide)] at j1
      rw [if_pos j1]; exact ⟨rfl, by decide⟩
    · subst hk
      rw [if_pos rfl] at j1
      rw [if_neg (by omega), if_pos j1]; exact ⟨rfl, by decide⟩
  unfold item
  rw [if_neg (by omega), if_pos d0, q2]
  simp only [if_neg d1.2, if_pos m1, p2]
  rw [d1.1]
/-! ### rounds -/
def Rd (p : List Wk) (q : Qy) (nt : Bool) (q' : Qy) (nt' : Bool) : Prop :=
  ∀ (l : List Tok) (R : List Wk), He R → kt l = p ++ R → kd l ≠ 8 ∧ kd l ≠ 9 ∧ ∃ l', kt l' = R ∧ round l q nt = .ok (q', nt', l')
theorem rd_flag {s : List UInt8} {q q' : Qy} {nt nt' : Bool} (h : flg s q nt = some (q', nt')) : Rd [(2, s)] q nt q' nt' := by
  intro l R hR hl
  obtain ⟨i1, i2, i3, i4⟩ := kd_of hl
  refine ⟨by omega, by omega, l.tail, i3, ?_⟩
  unfold round
  rw [if_pos i1, i2, h]
theorem rd_one {x : It} (ho : okIt x = true) (h1 : x.k = 1) (q : Qy) : Rd (itW x) q false { q with its := q.its ++ [x] } false := by
  intro l R hR hl
  obtain ⟨hk, l', q1, q2⟩ := itm_one ho h1 hR hl
  refine ⟨by omega, by omega, l', q1, ?_⟩
  unfold round
  rw [if_neg (by omega), q2]
theorem rd_two {x : It} (ho : okIt x = true) (h1 : x.k ≠ 1) (q : Qy) : Rd (itW x) q x.nt { q with its := q.its ++ [x] } x.nt := by
  intro l R hR hl
  obtain ⟨hk, l', q1, q2⟩ := itm_two ho h1 hR hl
  refine ⟨by omega, by omega, l', q1, ?_⟩
  unfold round
  rw [if_neg (by omega), q2]
inductive Run : List (List Wk) → Qy → Bool → Qy → Bool → Prop
  | nil (q : Qy) (nt : Bool) : Run [] q nt q nt
  | cons {p : List Wk} {ps : List (List Wk)} {q q1 q2 : Qy} {n n1 n2 : Bool} : Rd p q n q1 n1 → Run ps q1 n1 q2 n2 → Run (p :: ps) q n q2 n2
theorem Run.app {ps qs : List (List Wk)} {q q1 q2 : Qy} {n n1 n2 : Bool} (h1 : Run ps q n q1 n1) (h2 : Run qs q1 n1 q2 n2) : Run (ps ++ qs) q n q2 n2 := by
  induction h1 with
  | nil => exact h2
  | cons h _ ih => exact .cons h (ih h2)
theorem he_bW (ps : List (List Wk)) : He (bW ps ++ [(9, [])]) := by
  cases ps with
  | nil => exact ⟨9, _, _, rfl, .inr rfl⟩
  | cons p ps => exact ⟨8, _, _, rfl, .inl rfl⟩
theorem bW_cons (p : List Wk) (ps : List (List Wk)) : bW (p :: ps) = (8, [32]) :: (p ++ bW ps) := by unfold bW; rw [List.flatMap_cons]; rfl
theorem quest_run {ps : List (List Wk)} {q q' : Qy} {n n' : Bool} (h : Run ps q n q' n') : ∀ (f : Nat) (l : List Tok), l.length < f → (kt l = bW ps ++ [(9, [])] ∨ kt l = (bW ps).tail ++ [(9, [])]) → quest f l q n = .ok q' := by
  induction h with
  | nil q nt =>
    intro f l hf hl
    obtain ⟨f, rfl⟩ : ∃ g, f = g + 1 := ⟨f - 1, by omega⟩
    have hl : kt l = [(9, [])] := by rcases hl with hl | hl <;> exact hl
    have hk := (kd_of hl).1
    unfold quest
    have hs : skipGap l = l := by unfold skipGap; rw [if_neg (by omega)]
    rw [hs, if_pos hk]
  | @cons p ps q q1 q2 n n1 n2 hr _ ih =>
    intro f l hf hl
    obtain ⟨f, rfl⟩ : ∃ g, f = g + 1 := ⟨f - 1, by omega⟩
    have hm : kt (skipGap l) = p ++ (bW ps ++ [(9, [])]) ∧ (skipGap l).length ≤ l.length := by
      rcases hl with hl | hl
      · rw [bW_cons, List.cons_append, List.append_assoc] at hl
        obtain ⟨i1, _, i3, _⟩ := kd_of hl
        unfold skipGap
        rw [if_pos i1]
        exact ⟨i3, by rw [List.length_tail]; omega⟩
      · rw [bW_cons, List.tail_cons, List.append_assoc] at hl
        have := (hr l _ (he_bW ps) hl).1
        unfold skipGap
        rw [if_neg this]
        exact ⟨hl, Nat.le_refl _⟩
    obtain ⟨_, h9, l', hl', hround⟩ := hr _ _ (he_bW ps) hm.1
    have hlt := Go.Gap.round_lt hround
    obtain ⟨k, x, X, e, hk⟩ := he_bW ps
    have hkd := (kd_of (hl'.trans e)).1
    unfold quest
    rw [if_neg h9, hround]
    simp only
    rw [if_pos (by omega)]
    exact ih f l' (by omega) (.inl hl')
/-! ### the flags -/
theorem run_add {b : Bool} {s : List UInt8} {l : List (List Wk)} {q0 q1 q2 : Qy} (h : Run l q0 false q1 false) (ht : b = true → flg s q1 false = some (q2, false)) (hf : b = false → q2 = q1) : Run (addW b s l) q0 false q2 false := by
  unfold addW
  cases b
  · rw [hf rfl]; exact h
  · exact h.app (.cons (rd_flag (ht rfl)) (.nil _ _))
theorem flg_max {m : Nat} (h : m ≤ 9999) (q : Qy) (nt : Bool) : flg (bMax ++ dgN m) q nt = some ({ q with mx := (m : Nat) }, nt) := by
  have e : upto61 (bMax ++ dgN m) = [45, 45, 109, 97, 120] := rfl
  have e2 : (bMax ++ dgN m).drop (([45, 45, 109, 97, 120] : List UInt8).length + 1) = dgN m := rfl
  unfold flg
  rw [e, if_pos (by simp [bMax]), e2, count_dg h, if_pos ⟨rfl, by decide +kernel⟩]
theorem flg_skip {m : Nat} (h : m ≤ 9999) (q : Qy) (nt : Bool) : flg (bSkip ++ dgN m) q nt = some ({ q with sk := (m : Nat) }, nt) := by
  have e : upto61 (bSkip ++ dgN m) = [45, 45, 115, 107, 105, 112] := rfl
  have e2 : (bSkip ++ dgN m).drop (([45, 45, 115, 107, 105, 112] : List UInt8).length + 1) = dgN m := rfl
  unfold flg
  rw [e, if_pos (by simp [bSkip]), e2, count_dg h, if_neg (by rintro ⟨_, h2⟩; exact absurd h2 (by decide +kernel)), if_pos ⟨rfl, by decide +kernel⟩]
theorem flg_not (q : Qy) (nt : Bool) : flg bNot q nt = some (q, !nt) := by
  unfold flg; rw [if_neg (by decide +kernel), if_pos (by decide +kernel)]
theorem flg_topo (q : Qy) (nt : Bool) : flg bTopo q nt = some ({ q with od := 1 }, nt) := by
  unfold flg; rw [if_neg (by decide +kernel), if_neg (by decide +kernel), if_neg (by decide +kernel), if_pos (by decide +kernel)]
theorem flg_time (q : Qy) (nt : Bool) : flg bTime q nt = some ({ q with od := 2 }, nt) := by
  unfold flg; rw [if_neg (by decide +kernel), if_neg (by decide +kernel), if_neg (by decide +kernel), if_neg (by decide +kernel), if_pos (by decide +kernel)]
theorem flg_first (q : Qy) (nt : Bool) : flg bFirst q nt = some ({ q with fi := true }, nt) := by
  unfold flg; rw [if_neg (by decide +kernel), if_neg (by decide +kernel), if_neg (by decide +kernel), if_neg (by decide +kernel), if_neg (by decide +kernel), if_pos (by decide +kernel)]
theorem flg_rev (q : Qy) (nt : Bool) : flg bRev q nt = some ({ q with rv := true }, nt) := by
  unfold flg; rw [if_neg (by decide +kernel), if_neg (by decide +kernel), if_neg (by decide +kernel), if_neg (by decide +kernel), if_neg (by decide +kernel), if_neg (by decide +kernel), if_pos (by decide +kernel)]
theorem run_fl {q : Qy} (h : okQy q = true) : Run (flW q) nQy false ⟨[], q.mx, q.sk, q.od, q.fi, q.rv⟩ false := by
  unfold okQy at h
  rw [Bool.and_eq_true, decide_eq_true_iff] at h
  obtain ⟨_, h1, h2, h3, h4, h5, h6⟩ := h
  unfold flW
  refine run_add (q1 := ⟨[], q.mx, q.sk, q.od, q.fi, false⟩) (run_add (q1 := ⟨[], q.mx, q.sk, q.od, false, false⟩) (run_add (q1 := ⟨[], q.mx, 0, q.od, false, false⟩) (run_add (q1 := ⟨[], -1, 0, q.od, false, false⟩) (run_add (q1 := ⟨[], -1, 0, if q.od = 1 then 1 else 0, false, false⟩) (run_add (.nil nQy false) ?_ ?_) ?_ ?_) ?_ ?_) ?_ ?_) ?_ ?_) ?_ ?_
  · intro hb; rw [flg_topo, if_pos (by simpa using hb)]; rfl
  · intro hb; rw [if_neg (by simpa using hb)]; rfl
  · intro hb
    have : q.od = 2 := by simpa using hb
    rw [flg_time, this]
  · intro hb
    have : q.od ≠ 2 := by simpa using hb
    split
    · rename_i h; rw [h]
    · have : q.od = 0 := by omega
      rw [this]
  · intro hb
    have : 0 ≤ q.mx := by simpa using hb
    unfold dg
    rw [max0 this, flg_max (by omega), show ((q.mx.toNat : Nat) : Int) = q.mx by omega]
  · intro hb
    have : ¬ 0 ≤ q.mx := by simpa using hb
    rw [show q.mx = -1 by omega]
  · intro hb
    have : 0 < q.sk := by simpa using hb
    unfold dg
    rw [flg_skip (by omega), show ((q.sk.toNat : Nat) : Int) = q.sk by omega]
  · intro hb
    have : ¬ 0 < q.sk := by simpa using hb
    rw [show q.sk = 0 by omega]
  · intro hb; rw [flg_first, hb]
  · intro hb; rw [hb]
  · intro hb; rw [flg_rev, hb]
  · intro hb; rw [hb]
theorem run_its : ∀ (its : List It), its.all okIt = true → ∀ q : Qy, Run (its.flatMap itPW) q false { q with its := q.its ++ its } false
  | [], _, q => by rw [List.append_nil]; exact .nil _ _
  | x :: its, h, q => by
    rw [List.all_cons, Bool.and_eq_true] at h
    have ih := run_its its h.2 { q with its := q.its ++ [x] }
    simp only [List.append_assoc, List.singleton_append] at ih
    rw [List.flatMap_cons]
    refine Run.app ?_ ih
    unfold itPW
    by_cases h1 : x.k = 1
    · rw [if_pos h1]
      exact .cons (rd_one h.1 h1 q) (.nil _ _)
    · rw [if_neg h1]
      have hr := rd_two h.1 h1 q
      cases hn : x.nt
      · rw [hn] at hr
        exact .cons hr (.nil _ _)
      · rw [hn] at hr
        exact .cons (rd_flag (flg_not q false)) (.cons hr (.cons (rd_flag (flg_not _ true)) (.nil _ _)))
theorem run_q {q : Qy} (h : okQy q = true) : Run (ptsW q) nQy false q false := by
  have h1 := run_fl h
  unfold okQy at h
  rw [Bool.and_eq_true] at h
  have h2 := run_its q.its h.1 ⟨[], q.mx, q.sk, q.od, q.fi, q.rv⟩
  exact h1.app h2
/-- a printed question comes back, or has too many tokens -/
theorem print_back {q : Qy} (h : okQy q = true) (hl : (qyT q).length ≤ 201) : parse (qyT q).tail = (q, 0, 0) ∨ ∃ p, tokens one (qyT q).tail = .error (p, 5) := by
  have hc := (cut_parts _ (gp_pts h)).1
  have hcat : cat (bW (ptsW q)) = qyT q := by rw [cat_bW, map_ptsW h, qyT_bl h]
  have hct : Cut (bW (ptsW q)).tail ∧ cat (bW (ptsW q)).tail = (qyT q).tail := by
    rw [← hcat]
    cases hp : ptsW q with
    | nil => exact ⟨trivial, rfl⟩
    | cons p ps =>
      rw [hp] at hc
      rw [bW_cons] at hc ⊢
      exact ⟨hc.2.2, rfl⟩
  have hlen : (qyT q).tail.length ≤ 200 := by rw [List.length_tail]; omega
  have htk : tokens one (qyT q).tail = tkG one ((qyT q).tail.length + 1) (qyT q).tail 0 0 := by unfold tokens; rw [if_neg (by omega)]
  rcases tk_cut (bW (ptsW q)).tail ((qyT q).tail.length + 1) 0 0 hct.1 (by rw [hct.2]; omega) with ⟨p, hp⟩ | ⟨l, hp, hk⟩
  · rw [hct.2] at hp
    exact .inr ⟨p, by rw [htk, hp]⟩
  · rw [hct.2] at hp
    refine .inl (parse_ok (by rw [htk]; exact hp) ?_)
    exact quest_run (run_q h) _ _ (by omega) (.inr hk)
end Go.Prs

namespace Go.Prs
open Go.Lex Go.Gap
/-- tokens as a text of at most 200 bytes gives them -/
def Tg (l : List Tok) : Prop := ∀ t ∈ l, t.2.1.length ≤ 200 ∧ (t.1 = 7 → (inner t.2.1).all letter = true)
theorem Tg.sub {l r : List Tok} (h : Tg l) (hs : ∀ t ∈ r, t ∈ l) : Tg r := fun t ht => h t (hs t ht)
theorem kind7 {l : List UInt8} (h : kind l = 7) : (inner l).all letter = true := by
  unfold kind at h
  by_cases hb : rbrace l = true
  · unfold rbrace at hb
    rw [decide_eq_true_iff] at hb
    exact hb.2.2.2
  · exfalso
    rw [Bool.not_eq_true] at hb
    rw [hb] at h
    repeat' split at h
    all_goals first | exact absurd h (by decide) | contradiction | (simp_all; done)
theorem tk_tg : ∀ (f : Nat) (r : List UInt8) (p c : Nat) (m : List Tok), tkG one f r p c = .ok m → r.length ≤ 200 → Tg m
  | 0, _, _, _, _, h, _ => by cases h
  | f + 1, r, p, c, m, h, hl => by
    by_cases h0 : r = []
    · subst h0
      rw [tkG_end] at h
      split at h
      · cases h
      · cases h; intro t ht; rw [List.mem_singleton] at ht; subst ht; exact ⟨by simp, by simp⟩
    · obtain ⟨K, n, hK⟩ : ∃ K n, one r = (K, n) := ⟨_, _, rfl⟩
      rw [tk_step h0 hK] at h
      split at h
      · cases h
      · rename_i hn
        split at h
        · cases h
        · cases hx : tkG one f (r.drop n) (p + n) (c + 1) with
          | error e => rw [hx] at h; cases h
          | ok l2 =>
            rw [hx] at h; cases h
            have ih := tk_tg f _ _ _ _ hx (by rw [List.length_drop]; omega)
            intro t ht
            rcases List.mem_cons.1 ht with rfl | ht
            · refine ⟨by simp only [List.length_take]; omega, fun h7 => ?_⟩
              simp only at h7
              rcases one_first r h0 with ⟨h1, _⟩ | h1
              · rw [hK] at h1; exact absurd h1 hn
              · rw [hK] at h1
                exact kind7 (((first_kind h1.symm hn).1).trans h7)
            · exact ih t ht
theorem tokens_tg {s : List UInt8} {l : List Tok} (h : tokens one s = .ok l) : Tg l := by
  unfold tokens at h
  split at h
  · cases h
  · exact tk_tg _ _ _ _ _ h (by omega)
theorem count_le {t : List UInt8} (h : (count t).2 = true) : (count t).1 ≤ 9999 := by
  unfold count at h ⊢
  split at h
  · rename_i hc
    rw [if_pos hc]
    have := dec_bound t hc.2.2 t.length (Nat.le_refl _)
    rw [List.take_length] at this
    have : 10 ^ t.length ≤ 10 ^ 4 := Nat.pow_le_pow_right (by omega) hc.2.1
    show dec t ≤ 9999
    omega
  · cases h
theorem tail_sub {l r : List Tok} (h : ∀ t ∈ r, t ∈ l.tail) : ∀ t ∈ r, t ∈ l := fun t ht => List.mem_of_mem_tail (h t ht)
theorem cnt_good {l r : List Tok} {n : Nat} (h : cnt l = .ok (n, r)) : n ≤ 9999 ∧ ∀ t ∈ r, t ∈ l := by
  unfold cnt at h
  split at h
  · split at h
    · rename_i hc
      cases h
      exact ⟨count_le hc, fun t ht => List.mem_of_mem_tail ht⟩
    · cases h
  · cases h; exact ⟨by omega, fun t ht => ht⟩
theorem head_mem {l : List Tok} {k : Nat} (h : kd l = k) (hk : k ≠ 0) : ∃ t ∈ l, t.1 = k ∧ tx l = t.2.1 := by
  cases l with
  | nil => exact absurd h.symm hk
  | cons t l => exact ⟨t, by simp, h, rfl⟩
def Sg (x : List St) : Prop := x.all okSt = true ∧ ∀ s ∈ x, s.w.length ≤ 200
theorem Sg.cons {s : St} {x : List St} (h1 : okSt s = true) (h2 : s.w.length ≤ 200) (h : Sg x) : Sg (s :: x) := by
  refine ⟨by rw [List.all_cons, h1, h.1]; rfl, fun t ht => ?_⟩
  rcases List.mem_cons.1 ht with rfl | ht
  · exact h2
  · exact h.2 t ht
theorem ok_n {k n : Nat} (hk : k = 1 ∨ k = 2) (hn : n ≤ 9999) : okSt ⟨(k : Int), (n : Int), []⟩ = true := by
  unfold okSt
  rw [decide_eq_true]
  · rfl
  · refine ⟨by simp only; omega, by simp only; omega, by simp only; omega, by simp only; omega, fun h => ?_, fun _ => rfl⟩
    simp only at h; omega
theorem steps_good : ∀ (f : Nat) (l : List Tok) (x : List St) (r : List Tok), Tg l → steps f l = .ok (x, r) → Sg x ∧ ∀ t ∈ r, t ∈ l
  | 0, l, x, r, _, h => by cases h; exact ⟨⟨rfl, by simp⟩, fun t ht => ht⟩
  | f + 1, l, x, r, hg, h => by
    unfold steps at h
    split at h
    · split at h
      · rename_i h3 h7
        obtain ⟨z, rfl, hz⟩ := cons_okF h
        have hgt : Tg l.tail := hg.sub (fun t ht => List.mem_of_mem_tail ht)
        have hgt2 : Tg l.tail.tail := hgt.sub (fun t ht => List.mem_of_mem_tail ht)
        obtain ⟨i1, i2⟩ := steps_good f _ _ _ hgt2 hz
        obtain ⟨t, ht, ht1, ht2⟩ := head_mem h7 (by decide)
        obtain ⟨g1, g2⟩ := hgt t ht
        have hw := g2 ht1
        refine ⟨.cons ?_ ?_ i1, tail_sub (tail_sub i2)⟩
        · unfold okSt
          rw [ht2]
          simp only
          rw [hw, decide_eq_true (by simp)]; rfl
        · rw [ht2]
          unfold inner
          rw [List.length_take, List.length_drop]; omega
      · split at h
        · cases h
        · rename_i n r2 hc
          obtain ⟨z, rfl, hz⟩ := cons_okF h
          obtain ⟨c1, c2⟩ := cnt_good hc
          have hgt : Tg r2 := hg.sub (tail_sub c2)
          obtain ⟨i1, i2⟩ := steps_good f _ _ _ hgt hz
          exact ⟨.cons (ok_n (k := 1) (.inl rfl) c1) (by simp) i1, fun t ht => tail_sub c2 t (i2 t ht)⟩
    · split at h
      · split at h
        · cases h
        · rename_i n r2 hc
          obtain ⟨z, rfl, hz⟩ := cons_okF h
          obtain ⟨c1, c2⟩ := cnt_good hc
          have hgt : Tg r2 := hg.sub (tail_sub c2)
          obtain ⟨i1, i2⟩ := steps_good f _ _ _ hgt hz
          exact ⟨.cons (ok_n (k := 2) (.inr rfl) c1) (by simp) i1, fun t ht => tail_sub c2 t (i2 t ht)⟩
      · cases h; exact ⟨⟨rfl, by simp⟩, fun t ht => ht⟩
def Rg (x : Rv) : Prop := okRv x = true ∧ LgR x
theorem rev_good {l r : List Tok} {x : Rv} (hg : Tg l) (hl : l.length ≤ 61) (h : rev l = .ok (x, r)) : Rg x ∧ ∀ t ∈ r, t ∈ l := by
  have hlen := rev_lenF h
  unfold rev at h
  split at h
  · rename_i hc
    split at h
    · cases h
    · rename_i y r2 hs
      cases h
      obtain ⟨i1, i2⟩ := steps_good _ _ _ _ (hg.sub (fun t ht => List.mem_of_mem_tail ht)) hs
      obtain ⟨t, ht, ht1, ht2⟩ := head_mem hc.1 (by decide)
      have g1 := (hg t ht).1
      refine ⟨⟨by unfold okRv; rw [hc.2, i1.1]; rfl, ?_, by simp only at hlen; simp only; omega, fun s hs => by have := i1.2 s hs; omega⟩, tail_sub i2⟩
      simp only
      rw [ht2]; omega
  · cases h
theorem rg_here : Rg here := ⟨by decide +kernel, by unfold here; simp, by unfold here; simp, by unfold here; simp⟩
theorem lgR_z : LgR zRv := ⟨by simp [zRv], by simp [zRv], by simp [zRv]⟩
def Ig (x : It) : Prop := okIt x = true ∧ LgR x.a ∧ LgR x.b
theorem ig_one {a : Rv} (h : Rg a) (nt : Bool) : Ig ⟨1, a, zRv, nt⟩ := ⟨by unfold okIt; simp [h.1], h.2, lgR_z⟩
theorem ig_two {a b : Rv} {d : Nat} (h1 : Rg a) (h2 : Rg b) (hd : d = 2 ∨ d = 3) (nt : Bool) : Ig ⟨(d : Int), a, b, nt⟩ := by
  refine ⟨?_, h1.2, h2.2⟩
  unfold okIt
  simp only
  rw [if_neg (by omega), h1.1, h2.1, decide_eq_true (by omega)]; rfl
theorem dots_is {l : List Tok} (h : dots l ≠ 0) : dots l = 2 ∨ dots l = 3 := by
  unfold dots at h ⊢
  split
  · exact .inl rfl
  · split
    · exact .inr rfl
    · rename_i h5 h6; rw [if_neg h5, if_neg h6] at h; exact absurd rfl h
theorem item_good {nt : Bool} {l r : List Tok} {x : It} (hg : Tg l) (hl : l.length ≤ 61) (h : item nt l = .ok (x, r)) : Ig x ∧ ∀ t ∈ r, t ∈ l := by
  have hgt : Tg l.tail := hg.sub (fun t ht => List.mem_of_mem_tail ht)
  have hlt : l.tail.length ≤ 61 := by rw [List.length_tail]; omega
  unfold item at h
  split at h
  · split at h
    · cases h
    · rename_i a r2 hr
      cases h
      obtain ⟨i1, i2⟩ := rev_good hgt hlt hr
      exact ⟨ig_one i1 _, tail_sub i2⟩
  · split at h
    · split at h
      · cases h
      · rename_i a r2 hr
        obtain ⟨i1, i2⟩ := rev_good hg hl hr
        have hlr := rev_lenF hr
        split at h
        · cases h; exact ⟨ig_one i1 _, i2⟩
        · rename_i hd
          have hg2 : Tg r2.tail := hg.sub (fun t ht => i2 t (List.mem_of_mem_tail ht))
          split at h
          · split at h
            · cases h
            · rename_i b r3 hr3
              cases h
              obtain ⟨j1, j2⟩ := rev_good hg2 (by rw [List.length_tail]; omega) hr3
              exact ⟨ig_two i1 j1 (dots_is hd) _, fun t ht => i2 t (List.mem_of_mem_tail (j2 t ht))⟩
          · cases h
            exact ⟨ig_two i1 rg_here (dots_is hd) _, fun t ht => i2 t (List.mem_of_mem_tail ht)⟩
    · rename_i hd
      split at h
      · cases h
      · rename_i b r2 hr
        cases h
        obtain ⟨i1, i2⟩ := rev_good hgt hlt hr
        exact ⟨ig_two rg_here i1 (dots_is hd) _, tail_sub i2⟩
def Ng (q : Qy) : Prop := -1 ≤ q.mx ∧ q.mx ≤ 9999 ∧ 0 ≤ q.sk ∧ q.sk ≤ 9999 ∧ 0 ≤ q.od ∧ q.od ≤ 2
theorem flg_good {s : List UInt8} {q q' : Qy} {nt nt' : Bool} (h : flg s q nt = some (q', nt')) (hn : Ng q) : Ng q' := by
  obtain ⟨n1, n2, n3, n4, n5, n6⟩ := hn
  unfold flg at h
  split at h
  · split at h
    · rename_i hc; cases h
      have := count_le hc.1
      exact ⟨by simp only; omega, by simp only; omega, n3, n4, n5, n6⟩
    · split at h
      · rename_i hc; cases h
        have := count_le hc.1
        exact ⟨n1, n2, by simp only; omega, by simp only; omega, n5, n6⟩
      · cases h
  · repeat' split at h
    all_goals first | (cases h; done) | (cases h; exact ⟨n1, n2, n3, n4, by first | exact n5 | (simp only; omega), by first | exact n6 | (simp only; omega)⟩)
theorem quest_good : ∀ (f : Nat) (l : List Tok) (q q' : Qy) (nt : Bool), quest f l q nt = .ok q' → Tg l → q.its.length + l.length ≤ 61 → Ng q → (∀ x ∈ q.its, Ig x) → Ng q' ∧ q'.its.length ≤ 61 ∧ ∀ x ∈ q'.its, Ig x
  | 0, l, q, q', nt, h, _, hl, hn, hi => by cases h; exact ⟨hn, by omega, hi⟩
  | f + 1, l, q, q', nt, h, hg, hl, hn, hi => by
    have hs : Tg (skipGap l) ∧ (skipGap l).length ≤ l.length := by
      unfold skipGap
      split
      · exact ⟨hg.sub (fun t ht => List.mem_of_mem_tail ht), by rw [List.length_tail]; omega⟩
      · exact ⟨hg, Nat.le_refl _⟩
    unfold quest at h
    split at h
    · cases h; exact ⟨hn, by omega, hi⟩
    · split at h
      · cases h
      · rename_i q2 nt2 r hr
        have hlt := Go.Gap.round_lt hr
        split at h
        · unfold round at hr
          split at hr
          · split at hr
            · rename_i q3 nt3 hf
              cases hr
              have e := flg_itsF hf
              exact quest_good f _ _ _ _ h (hs.1.sub (fun t ht => List.mem_of_mem_tail ht)) (by rw [e]; omega) (flg_good hf hn) (by rw [e]; exact hi)
            · cases hr
          · split at hr
            · cases hr
            · rename_i x r2 hx
              cases hr
              obtain ⟨i1, i2⟩ := item_good hs.1 (by omega) hx
              refine quest_good f _ _ _ _ h (hs.1.sub i2) (by simp; omega) hn ?_
              intro y hy
              rcases List.mem_append.1 hy with hy | hy
              · exact hi y hy
              · rw [List.mem_singleton] at hy; rw [hy]; exact i1
        · cases h
/-- what was read may be, and is not too large -/
theorem parse_good {s : List UInt8} {q : Qy} {p : Nat} (h : parse s = (q, p, 0)) : okQy q = true ∧ Lg q := by
  unfold parse at h
  split at h
  · rename_i p2 c hk
    have := (Go.Lex.tokens_err hk).1
    simp only [Prod.mk.injEq] at h
    exact absurd h.2.2 this
  · rename_i l hk
    split at h
    · simp only [Prod.mk.injEq] at h; exact absurd h.2.2 (by decide)
    · rename_i q2 hq
      simp only [Prod.mk.injEq] at h
      obtain ⟨rfl, _, _⟩ := h
      obtain ⟨i1, i2, i3⟩ := quest_good _ _ _ _ _ hq (tokens_tg hk) (by have := tokens_lenF hk; simp [nQy]; omega) (by unfold Ng nQy; simp) (by simp [nQy])
      refine ⟨?_, by omega, fun x hx => (i3 x hx).2⟩
      unfold okQy
      rw [Bool.and_eq_true, decide_eq_true_iff]
      exact ⟨List.all_eq_true.2 (fun x hx => (i3 x hx).1), i1⟩
end Go.Prs

namespace Go.Proofs.Ytolahnnkdpbdfaa
open Go.Proofs Go.RowKit Go.Shelf Go.Sl Go.Prs
theorem fields103 : Try.prog.fieldsOf 103 = #[fKd, fNn, fWd] := by kernel_rfl
theorem stood103 : Try.prog.stoodInHeld 103 = false := by kernel_rfl
theorem und103 : Try.prog.underlying 103 = some (.struct (Try.prog.fieldsOf 103)) := by rw [fields103]; exact Try.underlying103
theorem eqIn103 (u : World) (x y : St) : (Op.equalIn 10000 103 (.agg (eSt x).toArray) (.agg (eSt y).toArray)).run Try.prog u = .ok (decide (x = y)) u := by
  have hp0 : ∀ (r : St) (w : World), (part 3 (eSt r).toArray 0).run Try.prog w = .ok (.int .i64 r.k) w := fun r w => by
    simp [part, isAgg, run_underlying Try.underlying3, eSt]
  have hp1 : ∀ (r : St) (w : World), (part 3 (eSt r).toArray 1).run Try.prog w = .ok (.int .i64 r.n) w := fun r w => by
    simp [part, isAgg, run_underlying Try.underlying3, eSt]
  have hp2 : ∀ (r : St) (w : World), (part 9 (eSt r).toArray 2).run Try.prog w = .ok (.string (bstr r.w)) w := fun r w => by
    simp [part, isAgg, run_underlying Try.underlying9, eSt]
  have hi : ∀ (a b : Int) (w : World), (Op.equalIn 9999 3 (.int .i64 a) (.int .i64 b)).run Try.prog w = .ok (decide (a = b)) w := fun a b w => by
    rw [run_equalIn_int w 9998 3 _ _ _ _ Try.underlying3]
    congr 1
  have hs : ∀ (a b : List UInt8) (w : World), (Op.equalIn 9999 9 (.string (bstr a)) (.string (bstr b))).run Try.prog w = .ok (decide (a = b)) w := fun a b w => by
    rw [run_equalIn_string w 9998 9 _ _ Try.underlying9, bstr_toList, bstr_toList]
    congr 1
    rw [Bool.eq_iff_iff]; simp
  rw [run_equalIn_struct u 9999 103 _ _ und103 stood103, fields103, st_eq]
  have n0 : fKd.name ≠ "_" := by decide
  have n1 : fNn.name ≠ "_" := by decide
  have n2 : fWd.name ≠ "_" := by decide
  have t0 : fKd.type = 3 := rfl
  have t1 : fNn.type = 3 := rfl
  have t2 : fWd.type = 9 := rfl
  have o0 : fKd.offset = 0 := rfl
  have o1 : fNn.offset = 1 := rfl
  have o2 : fWd.offset = 2 := rfl
  simp only [Op.eqFields, n0, n1, n2, ne_eq, not_false_eq_true, if_true, t0, t1, t2, o0, o1, o2, Sem.run_bind, hp0, hp1, hp2, Result.andThen_ok, hi, hs, Sem.run_ite, Sem.run_pure]
  cases decide (x.k = y.k) <;> cases decide (x.n = y.n) <;> cases decide (x.w = y.w) <;> rfl
theorem neq103 (u : World) (x y : St) : (binOp .neq 103 (.agg #[.int .i64 x.k, .int .i64 x.n, .string (bstr x.w)]) (.agg #[.int .i64 y.k, .int .i64 y.n, .string (bstr y.w)])).run Try.prog u = .ok (.bool (!decide (x = y))) u := by
  have h := eqIn103 u x y
  have h2 := run_neq_struct (P := Try.prog) u 103 (eSt x).toArray (eSt y).toArray
  rw [h] at h2
  exact h2
theorem guard103 (x y : Operand) (a b : Array Value) (u : World) : (eqGuard .neq 103 x y (.agg a) (.agg b)).run Try.prog u = .ok () u := run_eqGuard_agg u .neq 103 x y a b (by kernel_rfl)
set_option maxRecDepth 100000 in
set_option maxHeartbeats 2000000 in
theorem equal81 (x y : List St) (v1 v2 : Value) (w : World) (h1 : Sl eSt 3 w v1 x) (h2 : Sl eSt 3 w v2 y) :
    Calls Try.prog 81 #[v1, v2] w fun e w' => e = .returned (.bool (decide (x = y))) ∧ Below w.heap.size w w' := by
  have H1 := Lib.hid h1
  have H2 := Lib.hid h2
  have hm1 := h1.len_le
  have hm2 := h2.len_le
  obtain ⟨ao, cap, rfl, -⟩ := h1.shp
  obtain ⟨bo, cap2, rfl, -⟩ := h2.shp
  clear h1 h2
  by_cases hn : x.length = y.length
  · have q3 : ((x.length : Int) != (y.length : Int)) = false := by rw [hn]; exact bne_self_eq_false _
    have Hn := Lib.hid hn
    clear hn
    go_enter Try.func81, Try.ntmps81
    go_wp2_with fail
    go_loopw [13] (fun i wr => ∃ k : Nat, k ≤ x.length ∧ i = .int .i64 k ∧ Hid (x.take k = y.take k) ∧ Hid (Below w.heap.size w wr)) (fun i _ => x.length - (intOf i).toNat)
    case atStart => exact ⟨0, by omega, rfl, Lib.hid rfl, Lib.hid (Below.refl _ _)⟩
    case round =>
      obtain ⟨k, hk, rfl, HT, HW⟩ := hrel
      by_cases hlt : k < x.length
      · have hk2 : k < y.length := by rw [← Hn.out]; exact hlt
        obtain ⟨b5, o5, h5, hix, hc⟩ := (H1.out.ext HW.out).at (P := Try.prog) Try.underlying79 cells103' (by kernel_rfl) hlt
        obtain ⟨b6, o6, h6, hix6, hc6⟩ := (H2.out.ext HW.out).at (P := Try.prog) Try.underlying79 cells103' (by kernel_rfl) hk2
        obtain ⟨s, hs⟩ : ∃ s, Hid (x[k] = s) := ⟨_, Lib.hid rfl⟩
        obtain ⟨t, ht⟩ : ∃ s, Hid (y[k] = s) := ⟨_, Lib.hid rfl⟩
        rw [hs.out] at hc
        rw [ht.out] at hc6
        have e0 : wr.cell? ⟨b5, o5, none⟩ = some (.int .i64 s.k) := hc 0 (by omega)
        have e1 : wr.cell? ⟨b5, o5 + 1, none⟩ = some (.int .i64 s.n) := hc 1 (by omega)
        have e2 : wr.cell? ⟨b5, o5 + 2, none⟩ = some (.string (bstr s.w)) := hc 2 (by omega)
        have g0 : wr.cell? ⟨b6, o6, none⟩ = some (.int .i64 t.k) := hc6 0 (by omega)
        have g1 : wr.cell? ⟨b6, o6 + 1, none⟩ = some (.int .i64 t.n) := hc6 1 (by omega)
        have g2 : wr.cell? ⟨b6, o6 + 2, none⟩ = some (.string (bstr t.w)) := hc6 2 (by omega)
        have hd : decide ((k : Int) < (x.length : Int)) = true := decide_eq_true (by omega)
        clear hc hc6 h5 h6
        by_cases hst : s = t
        · have hq : ∀ u : World, (binOp .neq 103 (.agg #[.int .i64 s.k, .int .i64 s.n, .string (bstr s.w)]) (.agg #[.int .i64 t.k, .int .i64 t.n, .string (bstr t.w)])).run Try.prog u = .ok (.bool false) u := fun u => by rw [neq103, decide_eq_true hst]; rfl
          have hg := fun (u : World) => guard103 (.tmp 19) (.tmp 23) #[.int .i64 s.k, .int .i64 s.n, .string (bstr s.w)] #[.int .i64 t.k, .int .i64 t.n, .string (bstr t.w)] u
          have HT2 : Hid (x.take (k + 1) = y.take (k + 1)) := Lib.hid (by rw [List.take_succ_eq_append_getElem hlt, List.take_succ_eq_append_getElem hk2, HT.out, hs.out, ht.out, hst])
          clear hst
          go_wp2_with fail
          go_quiet (fail)
          go_wp2_with fail
          go_roundw
          case rel => exact ⟨k + 1, by omega, by go_num, HT2, Lib.hid (below_drewN HW.out _)⟩
          case measure => simp [intOf]; omega
        · have hq : ∀ u : World, (binOp .neq 103 (.agg #[.int .i64 s.k, .int .i64 s.n, .string (bstr s.w)]) (.agg #[.int .i64 t.k, .int .i64 t.n, .string (bstr t.w)])).run Try.prog u = .ok (.bool true) u := fun u => by rw [neq103, decide_eq_false hst]; rfl
          have hg := fun (u : World) => guard103 (.tmp 19) (.tmp 23) #[.int .i64 s.k, .int .i64 s.n, .string (bstr s.w)] #[.int .i64 t.k, .int .i64 t.n, .string (bstr t.w)] u
          have HZ : Hid (decide (x = y) = false) := Lib.hid (decide_eq_false (fun e => hst (by rw [← hs.out, ← ht.out]; subst e; rfl)))
          clear hst
          go_wp2_with fail
          go_quiet (fail)
          go_wp2_with fail
          go_ret
          exact ⟨ret_bool HZ.out.symm, below_drewN HW.out _⟩
      · have hd : decide ((k : Int) < (x.length : Int)) = false := decide_eq_false (by omega)
        obtain rfl : k = x.length := by omega
        have HZ : Hid (decide (x = y) = true) := Lib.hid (decide_eq_true (by
          have h3 := HT.out
          rw [List.take_length, Hn.out, List.take_length] at h3
          exact h3))
        go_wp2_with fail
        go_ret
        exact ⟨ret_bool HZ.out.symm, HW.out⟩
  · have q3 : ((x.length : Int) != (y.length : Int)) = true := by rw [bne_iff_ne]; omega
    have HZ : Hid (decide (x = y) = false) := Lib.hid (decide_eq_false (fun e => hn (by rw [e])))
    clear hn
    go_enter Try.func81, Try.ntmps81
    go_wp2_with fail
    go_ret
    exact ⟨ret_bool HZ.out.symm, Below.refl _ _⟩
end Go.Proofs.Ytolahnnkdpbdfaa

namespace Go.Proofs.Ytolahnnkdpbdfaa
open Go.Proofs Go.RowKit Go.Shelf Go.Sl Go.Prs
theorem rv_eq (x y : Rv) : decide (x = y) = (decide (x.b = y.b) && decide (x.st = y.st)) := by
  cases x; cases y; simp
set_option maxRecDepth 100000 in
set_option maxHeartbeats 2000000 in
theorem revSame59 (x y : Rv) (v1 v2 : Value) (w : World) (h1 : Sl eSt 3 w v1 x.st) (h2 : Sl eSt 3 w v2 y.st) :
    Calls Try.prog 59 #[.agg #[.string (bstr x.b), v1], .agg #[.string (bstr y.b), v2]] w fun e w' => e = .returned (.bool (decide (x = y))) ∧ Below w.heap.size w w' := by
  have HE := Lib.hid (fun u (hu : Below w.heap.size w u) => equal81 x.st y.st v1 v2 u (h1.ext hu) (h2.ext hu))
  obtain ⟨a1, n1, c1, rfl⟩ := h1.isSlice
  obtain ⟨a2, n2, c2, rfl⟩ := h2.isSlice
  have HA : Hid (Below w.heap.size w ((w.alloc (.cells #[.string (bstr x.b), .slice a1 n1 c1] 81)).alloc (.cells #[.string (bstr y.b), .slice a2 n2 c2] 81))) := Lib.hid (((Below.refl _ w).alloc (Nat.le_refl _) _).alloc (by simp) _)
  have K1 := Lib.hid (heap_keep (p := .cells #[.string (bstr y.b), .slice a2 n2 c2] 81) (heap_alloc_new w (.cells #[.string (bstr x.b), .slice a1 n1 c1] 81)))
  have K2 : Hid (((w.alloc (.cells #[.string (bstr x.b), .slice a1 n1 c1] 81)).alloc (.cells #[.string (bstr y.b), .slice a2 n2 c2] 81)).heap[w.heap.size + 1]? = some (.cells #[.string (bstr y.b), .slice a2 n2 c2] 81 (0, 0))) := Lib.hid (by
    have := heap_alloc_new (w.alloc (.cells #[.string (bstr x.b), .slice a1 n1 c1] 81)) (.cells #[.string (bstr y.b), .slice a2 n2 c2] 81)
    simpa using this)
  obtain ⟨t, ht⟩ : ∃ t, Hid (decide (x.st = y.st) = t) := ⟨_, Lib.hid rfl⟩
  rw [ht.out] at HE
  clear h1 h2
  by_cases hb : x.b = y.b
  · have q1 : (x.b == y.b) = true := by rw [hb]; exact beq_self_eq_true _
    have HZ : Hid (decide (x = y) = t) := Lib.hid (by rw [rv_eq, decide_eq_true hb, ht.out]; rfl)
    clear hb
    go_enter Try.func59, Try.ntmps59
    go_wp2_with fail
    generalize (w.alloc (.cells #[.string (bstr x.b), .slice a1 n1 c1] 81)).alloc (.cells #[.string (bstr y.b), .slice a2 n2 c2] 81) = W at HA K1 K2 ⊢
    obtain ⟨_, k0, k1, _, _⟩ := two_cells K1.out
    obtain ⟨_, j0, j1, _, _⟩ := two_cells K2.out
    go_wp2_with fail
    refine (HE.out _ HA.out).mono ?_
    rintro e w1 ⟨rfl, hb⟩
    have HB := Lib.hid (HA.out.trans (hb.mono HA.out.size))
    clear hb
    go_wp2_with fail
    go_ret
    exact ⟨ret_bool HZ.out.symm, HB.out⟩
  · have q1 : (x.b == y.b) = false := beq_eq_false_iff_ne.2 hb
    have HZ : Hid (decide (x = y) = false) := Lib.hid (by rw [rv_eq, decide_eq_false hb]; rfl)
    clear hb
    go_enter Try.func59, Try.ntmps59
    go_wp2_with fail
    generalize (w.alloc (.cells #[.string (bstr x.b), .slice a1 n1 c1] 81)).alloc (.cells #[.string (bstr y.b), .slice a2 n2 c2] 81) = W at HA K1 K2 ⊢
    obtain ⟨_, k0, k1, _, _⟩ := two_cells K1.out
    obtain ⟨_, j0, j1, _, _⟩ := two_cells K2.out
    go_wp2_with fail
    go_ret
    exact ⟨ret_bool HZ.out.symm, HA.out⟩
theorem it_eq (x y : It) : decide (x = y) = (decide (x.k = y.k) && (decide (x.nt = y.nt) && (decide (x.a = y.a) && decide (x.b = y.b)))) := by
  cases x; cases y
  rw [Bool.eq_iff_iff]
  simp only [decide_eq_true_eq, Bool.and_eq_true, It.mk.injEq]
  constructor
  · rintro ⟨h1, h2, h3, h4⟩; exact ⟨h1, h4, h2, h3⟩
  · rintro ⟨h1, h4, h2, h3⟩; exact ⟨h1, h2, h3, h4⟩
set_option maxRecDepth 100000 in
set_option maxHeartbeats 4000000 in
theorem itSame58 (x y : It) (v1 v2 v3 v4 : Value) (w : World) (h1 : Sl eSt 3 w v1 x.a.st) (h2 : Sl eSt 3 w v2 x.b.st) (h3 : Sl eSt 3 w v3 y.a.st) (h4 : Sl eSt 3 w v4 y.b.st) :
    Calls Try.prog 58 #[.agg #[.int .i64 x.k, .string (bstr x.a.b), v1, .string (bstr x.b.b), v2, .bool x.nt], .agg #[.int .i64 y.k, .string (bstr y.a.b), v3, .string (bstr y.b.b), v4, .bool y.nt]] w fun e w' => e = .returned (.bool (decide (x = y))) ∧ Below w.heap.size w w' := by
  have HEa := Lib.hid (fun u (hu : Below w.heap.size w u) => revSame59 x.a y.a v1 v3 u (h1.ext hu) (h3.ext hu))
  have HEb := Lib.hid (fun u (hu : Below w.heap.size w u) => revSame59 x.b y.b v2 v4 u (h2.ext hu) (h4.ext hu))
  obtain ⟨a1, n1, c1, rfl⟩ := h1.isSlice
  obtain ⟨a2, n2, c2, rfl⟩ := h2.isSlice
  obtain ⟨a3, n3, c3, rfl⟩ := h3.isSlice
  obtain ⟨a4, n4, c4, rfl⟩ := h4.isSlice
  have HA : Hid (Below w.heap.size w ((w.alloc (.cells #[.int .i64 x.k, .string (bstr x.a.b), .slice a1 n1 c1, .string (bstr x.b.b), .slice a2 n2 c2, .bool x.nt] 83)).alloc (.cells #[.int .i64 y.k, .string (bstr y.a.b), .slice a3 n3 c3, .string (bstr y.b.b), .slice a4 n4 c4, .bool y.nt] 83))) := Lib.hid (((Below.refl _ w).alloc (Nat.le_refl _) _).alloc (by simp) _)
  have K1 := Lib.hid (heap_keep (p := .cells #[.int .i64 y.k, .string (bstr y.a.b), .slice a3 n3 c3, .string (bstr y.b.b), .slice a4 n4 c4, .bool y.nt] 83) (heap_alloc_new w (.cells #[.int .i64 x.k, .string (bstr x.a.b), .slice a1 n1 c1, .string (bstr x.b.b), .slice a2 n2 c2, .bool x.nt] 83)))
  have K2 : Hid (((w.alloc (.cells #[.int .i64 x.k, .string (bstr x.a.b), .slice a1 n1 c1, .string (bstr x.b.b), .slice a2 n2 c2, .bool x.nt] 83)).alloc (.cells #[.int .i64 y.k, .string (bstr y.a.b), .slice a3 n3 c3, .string (bstr y.b.b), .slice a4 n4 c4, .bool y.nt] 83)).heap[w.heap.size + 1]? = some (.cells #[.int .i64 y.k, .string (bstr y.a.b), .slice a3 n3 c3, .string (bstr y.b.b), .slice a4 n4 c4, .bool y.nt] 83 (0, 0))) := Lib.hid (by
    have := heap_alloc_new (w.alloc (.cells #[.int .i64 x.k, .string (bstr x.a.b), .slice a1 n1 c1, .string (bstr x.b.b), .slice a2 n2 c2, .bool x.nt] 83)) (.cells #[.int .i64 y.k, .string (bstr y.a.b), .slice a3 n3 c3, .string (bstr y.b.b), .slice a4 n4 c4, .bool y.nt] 83)
    simpa using this)
  obtain ⟨ta, hta⟩ : ∃ t, Hid (decide (x.a = y.a) = t) := ⟨_, Lib.hid rfl⟩
  obtain ⟨tb, htb⟩ : ∃ t, Hid (decide (x.b = y.b) = t) := ⟨_, Lib.hid rfl⟩
  rw [hta.out] at HEa
  rw [htb.out] at HEb
  have HZ : Hid (decide (x = y) = (decide (x.k = y.k) && (decide (x.nt = y.nt) && (ta && tb)))) := Lib.hid (by rw [it_eq, hta.out, htb.out])
  clear h1 h2 h3 h4 hta htb
  by_cases hk : x.k = y.k
  · have q1 : (x.k == y.k) = true := by rw [hk]; exact beq_self_eq_true _
    by_cases hn : x.nt = y.nt
    · have q2 : (x.nt == y.nt) = true := by rw [hn]; exact beq_self_eq_true _
      have HZ2 : Hid (decide (x = y) = (ta && tb)) := Lib.hid (by rw [HZ.out, decide_eq_true hk, decide_eq_true hn]; rfl)
      clear hk hn HZ
      go_enter Try.func58, Try.ntmps58
      go_wp2_with fail
      refine (HEa.out _ HA.out).mono ?_
      rintro e w1 ⟨rfl, hb⟩
      have HB := Lib.hid (HA.out.trans (hb.mono HA.out.size))
      obtain ⟨-, k0, k1, k2, k3, k4, k5⟩ := six_cells ((hb.block _ (Array.getElem?_eq_some_iff.1 K1.out).1).trans K1.out)
      obtain ⟨-, j0, j1, j2, j3, j4, j5⟩ := six_cells ((hb.block _ (Array.getElem?_eq_some_iff.1 K2.out).1).trans K2.out)
      clear hb K1 K2
      cases ta
      · go_wp2_with fail
        go_ret
        exact ⟨ret_bool HZ2.out.symm, HB.out⟩
      · go_wp2_with fail
        refine (HEb.out _ HB.out).mono ?_
        rintro e w2 ⟨rfl, hb⟩
        have HB2 := Lib.hid (HB.out.trans (hb.mono HB.out.size))
        clear hb
        go_wp2_with fail
        go_ret
        exact ⟨ret_bool HZ2.out.symm, HB2.out⟩
    · have q2 : (x.nt == y.nt) = false := beq_eq_false_iff_ne.2 hn
      have HZ2 : Hid (decide (x = y) = false) := Lib.hid (by rw [HZ.out, decide_eq_false hn]; simp)
      clear hk hn HZ
      go_enter Try.func58, Try.ntmps58
      go_wp2_with fail
      go_ret
      exact ⟨ret_bool HZ2.out.symm, HA.out⟩
  · have q1 : (x.k == y.k) = false := beq_eq_false_iff_ne.2 hk
    have HZ2 : Hid (decide (x = y) = false) := Lib.hid (by rw [HZ.out, decide_eq_false hk]; rfl)
    clear hk HZ
    go_enter Try.func58, Try.ntmps58
    go_wp2_with fail
    go_ret
    exact ⟨ret_bool HZ2.out.symm, HA.out⟩
end Go.Proofs.Ytolahnnkdpbdfaa

namespace Go.Proofs.Ytolahnnkdpbdfaa
open Go.Proofs Go.RowKit Go.Shelf Go.Sl Go.Prs
set_option maxRecDepth 100000 in
set_option maxHeartbeats 4000000 in
theorem eqf57 (its its2 : List It) (v1 v2 : Value) (w : World) (h1 : IS w v1 its) (h2 : IS w v2 its2) :
    Calls Try.prog 57 #[v1, v2, .func (.func 58) #[] #[]] w fun e w' => e = .returned (.bool (decide (its = its2))) ∧ Below w.heap.size w w' := by
  obtain ⟨rs, hsl, hra⟩ := h1
  obtain ⟨rs2, hsl2, hra2⟩ := h2
  have HS := Lib.hid hsl
  have HS2 := Lib.hid hsl2
  have hm1 := hsl.len_le
  have hm2 := hsl2.len_le
  have Hlen := Lib.hid (show rs.length = its.length from hra.len)
  have Hlen2 := Lib.hid (show rs2.length = its2.length from hra2.len)
  have HIt : Hid (∀ (k : Nat) (g1 : k < rs.length) (g2 : k < its.length) (g3 : k < rs2.length) (g4 : k < its2.length) (u : World), Below w.heap.size w u → Calls Try.prog 58 #[.agg #[.int .i64 rs[k].k, .string (bstr rs[k].ab), sv rs[k].av, .string (bstr rs[k].bb), sv rs[k].bv, .bool rs[k].nt], .agg #[.int .i64 rs2[k].k, .string (bstr rs2[k].ab), sv rs2[k].av, .string (bstr rs2[k].bb), sv rs2[k].bv, .bool rs2[k].nt]] u fun e w' => e = .returned (.bool (decide (its[k] = its2[k]))) ∧ Below u.heap.size u w') := Lib.hid (by
    intro k g1 g2 g3 g4 u hu
    have hr := hra.get k g1 g2
    have hr2 := hra2.get k g3 g4
    have := itSame58 its[k] its2[k] (sv rs[k].av) (sv rs[k].bv) (sv rs2[k].av) (sv rs2[k].bv) u (hr.av.ext hu) (hr.bv.ext hu) (hr2.av.ext hu) (hr2.bv.ext hu)
    rw [hr.k, hr.ab, hr.bb, hr.nt, hr2.k, hr2.ab, hr2.bb, hr2.nt]
    exact this)
  obtain ⟨ao, cap, rfl, -⟩ := hsl.shp
  obtain ⟨bo, cap2, rfl, -⟩ := hsl2.shp
  clear hsl hsl2 hra hra2
  by_cases hn : rs.length = rs2.length
  · have q3 : ((rs.length : Int) != (rs2.length : Int)) = false := by rw [hn]; exact bne_self_eq_false _
    have Hn := Lib.hid hn
    clear hn
    go_enter Try.func57, Try.ntmps57
    go_wp2_with fail
    go_loopw [17] (fun i wr => ∃ k : Nat, k ≤ rs.length ∧ i = .int .i64 k ∧ Hid (its.take k = its2.take k) ∧ Hid (Below w.heap.size w wr)) (fun i _ => rs.length - (intOf i).toNat)
    case atStart => exact ⟨0, by omega, rfl, Lib.hid rfl, Lib.hid (Below.refl _ _)⟩
    case round =>
      obtain ⟨k, hk, rfl, HT, HW⟩ := hrel
      by_cases hlt : k < rs.length
      · have hlt2 : k < rs2.length := by rw [← Hn.out]; exact hlt
        have hl1 : k < its.length := by rw [← Hlen.out]; exact hlt
        have hl2 : k < its2.length := by rw [← Hlen2.out]; exact hlt2
        obtain ⟨b5, o5, h5, hix, hc⟩ := (HS.out.ext HW.out).at (P := Try.prog) Try.underlying45 cells83 some83 hlt
        obtain ⟨b6, o6, h6, hix6, hc6⟩ := (HS2.out.ext HW.out).at (P := Try.prog) Try.underlying45 cells83 some83 hlt2
        have c0 := hc 0 (by omega)
        have c1 := hc 1 (by omega)
        have c2 := hc 2 (by omega)
        have c3 := hc 3 (by omega)
        have c4 := hc 4 (by omega)
        have c5 := hc 5 (by omega)
        have g0 := hc6 0 (by omega)
        have g1 := hc6 1 (by omega)
        have g2 := hc6 2 (by omega)
        have g3 := hc6 3 (by omega)
        have g4 := hc6 4 (by omega)
        have g5 := hc6 5 (by omega)
        simp only [eRi, List.getElem?_cons_zero, List.getElem?_cons_succ, Nat.add_zero] at c0 c1 c2 c3 c4 c5 g0 g1 g2 g3 g4 g5
        have hN := Lib.hid (HIt.out k hlt hl1 hlt2 hl2)
        have hd : decide ((k : Int) < (rs.length : Int)) = true := decide_eq_true (by omega)
        obtain ⟨x, hx⟩ : ∃ x, Hid (rs[k] = x) := ⟨_, Lib.hid rfl⟩
        obtain ⟨y, hy⟩ : ∃ x, Hid (rs2[k] = x) := ⟨_, Lib.hid rfl⟩
        rw [hx.out] at c0 c1 c2 c3 c4 c5 hN
        rw [hy.out] at g0 g1 g2 g3 g4 g5 hN
        unfold sv at c2 c4 g2 g4 hN
        have G0 := fun o : Obj => (World.cell?_alloc_lt wr o ⟨b6, o6, none⟩ h6).trans g0
        have G1 := fun o : Obj => (World.cell?_alloc_lt wr o ⟨b6, o6 + 1, none⟩ h6).trans g1
        have G2 := fun o : Obj => (World.cell?_alloc_lt wr o ⟨b6, o6 + 2, none⟩ h6).trans g2
        have G3 := fun o : Obj => (World.cell?_alloc_lt wr o ⟨b6, o6 + 3, none⟩ h6).trans g3
        have G4 := fun o : Obj => (World.cell?_alloc_lt wr o ⟨b6, o6 + 4, none⟩ h6).trans g4
        have G5 := fun o : Obj => (World.cell?_alloc_lt wr o ⟨b6, o6 + 5, none⟩ h6).trans g5
        have HBo := Lib.hid ((HW.out.alloc HW.out.size (.cells #[.int .i64 x.k, .string (bstr x.ab), .slice x.av.1 x.av.2.1 x.av.2.2, .string (bstr x.bb), .slice x.bv.1 x.bv.2.1 x.bv.2.2, .bool x.nt] 83)).alloc (by have := HW.out.size; simp; omega) (.cells #[.int .i64 y.k, .string (bstr y.ab), .slice y.av.1 y.av.2.1 y.av.2.2, .string (bstr y.bb), .slice y.bv.1 y.bv.2.1 y.bv.2.2, .bool y.nt] 83))
        clear hc hc6
        go_wp2_with fail
        refine (hN.out _ HBo.out).mono ?_
        rintro e w1 ⟨rfl, hb⟩
        have HB2 := Lib.hid (HBo.out.trans (hb.mono HBo.out.size))
        clear hb
        by_cases hq : its[k] = its2[k]
        · have HT2 : Hid (its.take (k + 1) = its2.take (k + 1)) := Lib.hid (by rw [List.take_succ_eq_append_getElem hl1, List.take_succ_eq_append_getElem hl2, HT.out, hq])
          rw [decide_eq_true hq]
          clear hq
          go_wp2_with fail
          go_roundw
          case rel => exact ⟨k + 1, by omega, by go_num, HT2, HB2⟩
          case measure => simp [intOf]; omega
        · have HZ : Hid (decide (its = its2) = false) := Lib.hid (decide_eq_false (fun e => hq (by subst e; rfl)))
          rw [decide_eq_false hq]
          clear hq
          go_wp2_with fail
          go_ret
          exact ⟨ret_bool HZ.out.symm, HB2.out⟩
      · have hd : decide ((k : Int) < (rs.length : Int)) = false := decide_eq_false (by omega)
        obtain rfl : k = rs.length := by omega
        have HZ : Hid (decide (its = its2) = true) := Lib.hid (decide_eq_true (by
          have h3 := HT.out
          rw [Hlen.out, List.take_length] at h3
          rw [← Hlen.out, Hn.out, Hlen2.out, List.take_length] at h3
          exact h3))
        go_wp2_with fail
        go_ret
        exact ⟨ret_bool HZ.out.symm, HW.out⟩
  · have q3 : ((rs.length : Int) != (rs2.length : Int)) = true := by rw [bne_iff_ne]; omega
    have HZ : Hid (decide (its = its2) = false) := Lib.hid (decide_eq_false (fun e => hn (by rw [Hlen.out, Hlen2.out, e])))
    clear hn
    go_enter Try.func57, Try.ntmps57
    go_wp2_with fail
    go_ret
    exact ⟨ret_bool HZ.out.symm, Below.refl _ _⟩
theorem qy_eq (q q2 : Qy) : decide (q = q2) = (decide (q.mx = q2.mx ∧ q.sk = q2.sk ∧ q.od = q2.od ∧ q.fi = q2.fi ∧ q.rv = q2.rv) && decide (q.its = q2.its)) := by
  cases q; cases q2
  rw [Bool.eq_iff_iff]
  simp only [decide_eq_true_eq, Bool.and_eq_true, Qy.mk.injEq]
  constructor
  · rintro ⟨h1, h2, h3, h4, h5, h6⟩; exact ⟨⟨h2, h3, h4, h5, h6⟩, h1⟩
  · rintro ⟨⟨h2, h3, h4, h5, h6⟩, h1⟩; exact ⟨h1, h2, h3, h4, h5, h6⟩
set_option maxRecDepth 100000 in
set_option maxHeartbeats 4000000 in
theorem psame_any (iv iv2 : Value) (q q2 : Qy) (w : World) (h1 : IS w iv q.its) (h2 : IS w iv2 q2.its) :
    Calls Try.prog 32 #[qv iv q, qv iv2 q2] w fun e w' => e = .returned (.bool (decide (q = q2))) ∧ Below w.heap.size w w' := by
  have HE := Lib.hid (fun u (hu : Below w.heap.size w u) => eqf57 q.its q2.its iv iv2 u (h1.ext hu) (h2.ext hu))
  obtain ⟨a1, n1, c1, rfl⟩ := h1.isSlice
  obtain ⟨a2, n2, c2, rfl⟩ := h2.isSlice
  have HA : Hid (Below w.heap.size w ((w.alloc (.cells #[.slice a1 n1 c1, .int .i64 q.mx, .int .i64 q.sk, .int .i64 q.od, .bool q.fi, .bool q.rv] 47)).alloc (.cells #[.slice a2 n2 c2, .int .i64 q2.mx, .int .i64 q2.sk, .int .i64 q2.od, .bool q2.fi, .bool q2.rv] 47))) := Lib.hid (((Below.refl _ w).alloc (Nat.le_refl _) _).alloc (by simp) _)
  obtain ⟨t, ht⟩ : ∃ t, Hid (decide (q.its = q2.its) = t) := ⟨_, Lib.hid rfl⟩
  rw [ht.out] at HE
  have HZ := Lib.hid (qy_eq q q2)
  rw [ht.out] at HZ
  clear h1 h2 ht
  unfold qv
  have HA2 := Lib.hid (fun o1 o2 : Obj => ((Below.refl w.heap.size w).alloc (Nat.le_refl _) o1).alloc (by simp) o2)
  clear HA
  go_enter Try.func32, Try.ntmps32
  go_wp2_with fail
  all_goals first
    | (go_ret
       refine ⟨ret_bool (decide_eq_false (fun e => ?_)).symm, HA2.out _ _⟩
       clear HE HA2 HZ
       subst e
       first
         | contradiction
         | (exfalso; have h := ‹(!q.rv == q.rv) = true›; revert h; cases q.rv <;> simp))
    | (refine (HE.out _ (HA2.out _ _)).mono ?_
       rintro e w1 ⟨rfl, hb⟩
       have HB := Lib.hid ((HA2.out _ _).trans (hb.mono (HA2.out _ _).size))
       clear hb
       have HZ2 : Hid (decide (q = q2) = t) := Lib.hid (by
         have h5 : q.rv = q2.rv := by
           have h := ‹(!q.rv == q2.rv) = false›
           revert h; cases q.rv <;> cases q2.rv <;> simp
         rw [HZ.out, decide_eq_true ⟨by assumption, by assumption, by assumption, by assumption, h5⟩]; rfl)
       go_wp2_with fail
       go_ret
       exact ⟨ret_bool HZ2.out.symm, HB.out⟩)
end Go.Proofs.Ytolahnnkdpbdfaa

namespace Go.Prs
theorem print_two {q : Qy} (h : okQy q = true) : (print q = ([], 3)) ∨ (print q = ((qyT q).tail, 0) ∧ (qyT q).length ≤ 201) := by
  unfold print
  rw [if_pos h]
  by_cases hl : 201 < (qyT q).length
  · rw [if_pos hl]; exact .inl rfl
  · rw [if_neg hl]; exact .inr ⟨rfl, by omega⟩
end Go.Prs
namespace Go.Proofs.Ytolahnnkdpbdfaa
open Go.Proofs Go.RowKit Go.Shelf Go.Sl Go.Prs
set_option maxRecDepth 100000 in
set_option maxHeartbeats 8000000 in
theorem parseSame_any (s : List UInt8) (w : World) (hm : Ml w) : Calls Try.prog 11 #[.string (bstr s)] w fun e w' => e = .returned (.bool true) ∧ Below w.heap.size w w' := by
  have HM := Lib.hid hm
  have HW := Lib.hid (fun u (hu : Below w.heap.size w u) => works28_any u (HM.out.ext hu))
  clear hm
  by_cases hlong : 400 < s.length
  · have hl : decide ((400 : Int) < (s.length : Int)) = true := decide_eq_true (by omega)
    go_enter Try.func11, Try.ntmps11
    go_wp2_with fail
    refine (HW.out _ (Below.refl _ _)).mono ?_
    rintro e w1 ⟨rfl, hb⟩
    go_wp2_with fail
    go_ret
    exact ⟨rfl, hb⟩
  · have hl : decide ((400 : Int) < (s.length : Int)) = false := decide_eq_false (by omega)
    have HP := Lib.hid (parse1_any s w (by omega) HM.out)
    obtain ⟨⟨q, p, c⟩, ho⟩ : ∃ o, Prs.parse s = o := ⟨_, rfl⟩
    have HG : Hid (c = 0 → okQy q = true ∧ Lg q) := Lib.hid (fun h => parse_good (by rw [ho, h]))
    rw [ho] at HP
    clear hlong ho
    go_enter Try.func11, Try.ntmps11
    go_wp2_with fail
    refine HP.out.mono ?_
    rintro e w1 ⟨hb, iv, rfl, hq⟩
    have HQ := Lib.hid hq.is
    have HB := Lib.hid hb
    obtain ⟨a0, n0, c0, rfl⟩ := hq.isSlice
    clear HP hb hq
    by_cases hc : c = 0
    · subst hc
      obtain ⟨hok, hlg⟩ := HG.out rfl
      clear HG
      have HPr := Lib.hid (fun u (hu : Below w1.heap.size w1 u) => print_any (.slice a0 n0 c0) q u (HQ.out.ext hu) hlg)
      have hz : ckN q = 0 := by unfold ckN; rw [if_pos hok]
      have HCk := Lib.hid (fun u (hu : Below w1.heap.size w1 u) => check_any (.slice a0 n0 c0) q u (HQ.out.ext hu) (lg_sms hlg))
      rw [hz] at HCk
      have HWB : Hid (∀ u, Below w1.heap.size w1 u → Below w.heap.size w u) := Lib.hid (fun u hu => HB.out.trans (hu.mono HB.out.size))
      have HA := Lib.hid ((Below.refl w1.heap.size w1).alloc (Nat.le_refl _) (.cells #[.slice a0 n0 c0, .int .i64 q.mx, .int .i64 q.sk, .int .i64 q.od, .bool q.fi, .bool q.rv] 47))
      have HK := Lib.hid (heap_alloc_new w1 (.cells #[.slice a0 n0 c0, .int .i64 q.mx, .int .i64 q.sk, .int .i64 q.od, .bool q.fi, .bool q.rv] 47))
      have hsz : w1.heap.size < (w1.alloc (.cells #[.slice a0 n0 c0, .int .i64 q.mx, .int .i64 q.sk, .int .i64 q.od, .bool q.fi, .bool q.rv] 47)).heap.size := by simp
      clear hz
      rcases print_two hok with h3 | ⟨h0, hl201⟩
      · rw [h3] at HPr
        clear h3
        unfold qv at *
        dsimp only at HPr ⊢
        go_wp2_with fail
        generalize w1.alloc (.cells #[.slice a0 n0 c0, .int .i64 q.mx, .int .i64 q.sk, .int .i64 q.od, .bool q.fi, .bool q.rv] 47) = W at HA HK hsz ⊢
        have HKu := Lib.hid (fun u (hu : Below W.heap.size W u) => (hu.block _ hsz).trans HK.out)
        clear hsz
        refine (HPr.out _ HA.out).mono ?_
        rintro e w2 ⟨rfl, hb2⟩
        have HC2 := Lib.hid hb2
        have HB2 := Lib.hid (HA.out.trans (hb2.mono HA.out.size))
        obtain ⟨_, k0, k1, k2, k3, k4, k5⟩ := six_cells (HKu.out _ HC2.out)
        clear hb2
        go_wp2_with fail
        refine (HCk.out _ HB2.out).mono ?_
        rintro e w3 ⟨rfl, hb⟩
        have HC3 := Lib.hid (HC2.out.trans (hb.mono HC2.out.size))
        have HB3 := Lib.hid (HB2.out.trans (hb.mono HB2.out.size))
        clear hb k0 k1 k2 k3 k4 k5
        obtain ⟨_, k0, k1, k2, k3, k4, k5⟩ := six_cells (HKu.out _ HC3.out)
        go_wp2_with fail
        refine (HCk.out _ HB3.out).mono ?_
        rintro e w4 ⟨rfl, hb⟩
        have HC4 := Lib.hid (HC3.out.trans (hb.mono HC3.out.size))
        have HB4 := Lib.hid (HB3.out.trans (hb.mono HB3.out.size))
        clear hb k0 k1 k2 k3 k4 k5
        obtain ⟨_, k0, k1, k2, k3, k4, k5⟩ := six_cells (HKu.out _ HC4.out)
        go_wp2_with fail
        refine (HW.out _ (HWB.out _ HB4.out)).mono ?_
        rintro e w9 ⟨rfl, hb⟩
        have HB9 := Lib.hid ((HWB.out _ HB4.out).trans (hb.mono (HWB.out _ HB4.out).size))
        clear hb
        go_wp2_with fail
        go_ret
        exact ⟨rfl, HB9.out⟩
      · rw [h0] at HPr
        have HBk := Lib.hid (print_back hok hl201)
        obtain ⟨T, hT⟩ : ∃ T, Hid ((qyT q).tail = T) := ⟨_, Lib.hid rfl⟩
        rw [hT.out] at HPr HBk
        have hTl : T.length ≤ 200 := by rw [← hT.out, List.length_tail]; omega
        have HP2 := Lib.hid (fun u (hu : Below w1.heap.size w1 u) => parse1_any T u (by omega) (HM.out.ext (HWB.out _ hu)))
        clear h0 hl201 hok
        unfold qv at *
        dsimp only at HPr ⊢
        go_wp2_with fail
        generalize w1.alloc (.cells #[.slice a0 n0 c0, .int .i64 q.mx, .int .i64 q.sk, .int .i64 q.od, .bool q.fi, .bool q.rv] 47) = W at HA HK hsz ⊢
        have HKu := Lib.hid (fun u (hu : Below W.heap.size W u) => (hu.block _ hsz).trans HK.out)
        clear hsz
        refine (HPr.out _ HA.out).mono ?_
        rintro e w2 ⟨rfl, hb2⟩
        have HC2 := Lib.hid hb2
        have HB2 := Lib.hid (HA.out.trans (hb2.mono HA.out.size))
        obtain ⟨_, k0, k1, k2, k3, k4, k5⟩ := six_cells (HKu.out _ HC2.out)
        clear hb2
        go_wp2_with fail
        refine (HCk.out _ HB2.out).mono ?_
        rintro e w3 ⟨rfl, hb⟩
        have HC3 := Lib.hid (HC2.out.trans (hb.mono HC2.out.size))
        have HB3 := Lib.hid (HB2.out.trans (hb.mono HB2.out.size))
        clear hb k0 k1 k2 k3 k4 k5
        obtain ⟨_, k0, k1, k2, k3, k4, k5⟩ := six_cells (HKu.out _ HC3.out)
        go_wp2_with fail
        rcases HBk.out with hback | ⟨p2, htk⟩
        · rw [hback] at HP2
          clear hback
          refine (HP2.out _ HB3.out).mono ?_
          rintro e w4 ⟨hb, iv4, rfl, hq4⟩
          have HQ4 := Lib.hid hq4.is
          obtain ⟨a4, n4, c4, rfl⟩ := hq4.isSlice
          have HC4 := Lib.hid (HC3.out.trans (hb.mono HC3.out.size))
          have HB4 := Lib.hid (HB3.out.trans (hb.mono HB3.out.size))
          clear hb hq4 k0 k1 k2 k3 k4 k5
          unfold qv
          dsimp only
          obtain ⟨_, k0, k1, k2, k3, k4, k5⟩ := six_cells (HKu.out _ HC4.out)
          have HBo := Lib.hid (fun o => HB4.out.alloc HB4.out.size o)
          have HCo := Lib.hid (fun o => HC4.out.alloc HC4.out.size o)
          have HR := Lib.hid (heap_alloc_new w4 (.cells #[.slice a4 n4 c4, .int .i64 q.mx, .int .i64 q.sk, .int .i64 q.od, .bool q.fi, .bool q.rv] 47))
          have HSm : Hid (∀ u, IS u (.slice a0 n0 c0) q.its → IS u (.slice a4 n4 c4) q.its → Calls Try.prog 32 #[.agg #[.slice a0 n0 c0, .int .i64 q.mx, .int .i64 q.sk, .int .i64 q.od, .bool q.fi, .bool q.rv], .agg #[.slice a4 n4 c4, .int .i64 q.mx, .int .i64 q.sk, .int .i64 q.od, .bool q.fi, .bool q.rv]] u fun e w' => e = .returned (.bool true) ∧ Below u.heap.size u w') :=
            Lib.hid (fun u h1 h2 => (psame_any (.slice a0 n0 c0) (.slice a4 n4 c4) q q u h1 h2).mono (fun e w' ⟨he, hb⟩ => ⟨by rw [he, decide_eq_true rfl], hb⟩))
          go_wp2_with fail
          refine (HSm.out _ (HQ.out.ext (HBo.out _)) (HQ4.out.ext ((Below.refl _ _).alloc (Nat.le_refl _) _))).mono ?_
          rintro e w5 ⟨rfl, hb⟩
          have HB5 := Lib.hid ((HBo.out _).trans (hb.mono (HBo.out _).size))
          clear hb
          go_wp2_with fail
          refine (HW.out _ (HWB.out _ HB5.out)).mono ?_
          rintro e w9 ⟨rfl, hb⟩
          have HB9 := Lib.hid ((HWB.out _ HB5.out).trans (hb.mono (HWB.out _ HB5.out).size))
          clear hb
          go_wp2_with fail
          go_ret
          exact ⟨rfl, HB9.out⟩
        · have hpt := parse_tok htk
          rw [hpt] at HP2
          have HTk := Lib.hid (fun u => rtokens_any T u (by omega))
          rw [← both_tokens, htk] at HTk
          clear hpt htk
          refine (HP2.out _ HB3.out).mono ?_
          rintro e w4 ⟨hb, iv4, rfl, hq4⟩
          obtain ⟨a4, n4, c4, rfl⟩ := hq4.isSlice
          have HB4 := Lib.hid (HB3.out.trans (hb.mono HB3.out.size))
          clear hb hq4 k0 k1 k2 k3 k4 k5
          unfold qv zQy
          dsimp only
          have HBo := Lib.hid (fun o => HB4.out.alloc HB4.out.size o)
          go_wp2_with fail
          refine (HTk.out _).mono ?_
          rintro e w5 ⟨hb, rfl⟩
          have HB5 := Lib.hid ((HBo.out _).trans (hb.mono (HBo.out _).size))
          clear hb
          go_wp2_with fail
          refine (HW.out _ (HWB.out _ HB5.out)).mono ?_
          rintro e w9 ⟨rfl, hb⟩
          have HB9 := Lib.hid ((HWB.out _ HB5.out).trans (hb.mono (HWB.out _ HB5.out).size))
          clear hb
          go_wp2_with fail
          go_ret
          exact ⟨rfl, HB9.out⟩
    · have hcb : ((c : Int) != 0) = true := by rw [bne_iff_ne]; omega
      clear hc HG
      unfold qv
      dsimp only
      have HBo := Lib.hid (fun o => HB.out.alloc HB.out.size o)
      go_wp2_with fail
      refine (HW.out _ (HBo.out _)).mono ?_
      rintro e w5 ⟨rfl, hb5⟩
      have HB5 := Lib.hid ((HBo.out _).trans (hb5.mono (HBo.out _).size))
      clear hb5
      go_wp2_with fail
      go_ret
      exact ⟨rfl, HB5.out⟩
end Go.Proofs.Ytolahnnkdpbdfaa

namespace Go.Proofs.Ytolahnnkdpbdfaa
open Go.Proofs Go.RowKit Go.Shelf Go.Sl Go.Prs
end Go.Proofs.Ytolahnnkdpbdfaa
namespace Go.Prs
theorem print_all (q : Qy) : (∃ e : Nat, e ≠ 0 ∧ print q = ([], e)) ∨ (okQy q = true ∧ (qyT q).length ≤ 201 ∧ print q = ((qyT q).tail, 0)) := by
  cases h : okQy q
  · left; refine ⟨2, by decide, ?_⟩; unfold print; rw [if_neg (by simp [h])]
  · rcases print_two h with h3 | ⟨h0, hl⟩
    · exact .inl ⟨3, by decide, h3⟩
    · exact .inr ⟨rfl, hl, h0⟩
end Go.Prs
namespace Go.Proofs.Ytolahnnkdpbdfaa
open Go.Proofs Go.RowKit Go.Shelf Go.Sl Go.Prs
set_option maxRecDepth 100000 in
set_option maxHeartbeats 8000000 in
theorem parseBack_any (iv iv2 : Value) (q o : Qy) (w : World) (h1 : IS w iv q.its) (h2 : IS w iv2 o.its) (hm : Ml w) : Calls Try.prog 10 #[qv iv q, qv iv2 o] w fun e w' => e = .returned (.bool true) ∧ Below w.heap.size w w' := by
  have HM := Lib.hid hm
  have HI := Lib.hid h1
  have HJ := Lib.hid h2
  have HW := Lib.hid (fun u (hu : Below w.heap.size w u) => works28_any u (HM.out.ext hu))
  have HLq := Lib.hid (fun u (hu : Below w.heap.size w u) => large_any iv q u (h1.ext hu))
  have HLo := Lib.hid (fun u (hu : Below w.heap.size w u) => large_any iv2 o u (h2.ext hu))
  obtain ⟨a0, n0, c0, rfl⟩ := h1.isSlice
  obtain ⟨a1, n1, c1, rfl⟩ := h2.isSlice
  have HA := Lib.hid (((Below.refl w.heap.size w).alloc (Nat.le_refl _) (.cells #[.slice a0 n0 c0, .int .i64 q.mx, .int .i64 q.sk, .int .i64 q.od, .bool q.fi, .bool q.rv] 47)).alloc (by simp) (.cells #[.slice a1 n1 c1, .int .i64 o.mx, .int .i64 o.sk, .int .i64 o.od, .bool o.fi, .bool o.rv] 47))
  have HK := Lib.hid (heap_keep (p := .cells #[.slice a1 n1 c1, .int .i64 o.mx, .int .i64 o.sk, .int .i64 o.od, .bool o.fi, .bool o.rv] 47) (heap_alloc_new w (.cells #[.slice a0 n0 c0, .int .i64 q.mx, .int .i64 q.sk, .int .i64 q.od, .bool q.fi, .bool q.rv] 47)))
  have HK2 : Hid (((w.alloc (.cells #[.slice a0 n0 c0, .int .i64 q.mx, .int .i64 q.sk, .int .i64 q.od, .bool q.fi, .bool q.rv] 47)).alloc (.cells #[.slice a1 n1 c1, .int .i64 o.mx, .int .i64 o.sk, .int .i64 o.od, .bool o.fi, .bool o.rv] 47)).heap[w.heap.size + 1]? = some (.cells #[.slice a1 n1 c1, .int .i64 o.mx, .int .i64 o.sk, .int .i64 o.od, .bool o.fi, .bool o.rv] 47 (0, 0))) := Lib.hid (by
    have := heap_alloc_new (w.alloc (.cells #[.slice a0 n0 c0, .int .i64 q.mx, .int .i64 q.sk, .int .i64 q.od, .bool q.fi, .bool q.rv] 47)) (.cells #[.slice a1 n1 c1, .int .i64 o.mx, .int .i64 o.sk, .int .i64 o.od, .bool o.fi, .bool o.rv] 47)
    simpa using this)
  clear hm h1 h2
  cases hbq : bigQ q
  · cases hbo : bigQ o
    · have hlq := small_lg hbq
      have hlo := small_lg hbo
      rw [hbq] at HLq
      rw [hbo] at HLo
      have HSp : Hid (∀ u, Below w.heap.size w u → Calls Try.prog 32 #[qv (.slice a0 n0 c0) q, qv (.slice a1 n1 c1) o] u fun e w' => e = .returned (.bool (decide (q = o))) ∧ Below u.heap.size u w') := Lib.hid (fun u hu => psame_any _ _ q o u (HI.out.ext hu) (HJ.out.ext hu))
      have HSq : Hid (∀ u, Below w.heap.size w u → Calls Try.prog 32 #[qv (.slice a0 n0 c0) q, qv (.slice a0 n0 c0) q] u fun e w' => e = .returned (.bool true) ∧ Below u.heap.size u w') := Lib.hid (fun u hu => (psame_any _ _ q q u (HI.out.ext hu) (HI.out.ext hu)).mono (fun e w' ⟨he, hb⟩ => ⟨by rw [he, decide_eq_true rfl], hb⟩))
      have HPq := Lib.hid (fun u (hu : Below w.heap.size w u) => plain_any (.slice a0 n0 c0) q u (HI.out.ext hu) (lg_few hlq))
      have HPo := Lib.hid (fun u (hu : Below w.heap.size w u) => plain_any (.slice a1 n1 c1) o u (HJ.out.ext hu) (lg_few hlo))
      have HSd := Lib.hid (fun u v1 v2 (g1 : IS u v1 q.its) (g2 : IS u v2 o.its) => dsame_any v1 v2 q o u g1 g2)
      have HPr := Lib.hid (fun u (hu : Below w.heap.size w u) => print_any (.slice a0 n0 c0) q u (HI.out.ext hu) hlq)
      obtain ⟨tt, htt⟩ : ∃ t, decide (q = o) = t := ⟨_, rfl⟩
      rw [htt] at HSp HSd
      have hbb : (tt != tt) = false := by cases tt <;> rfl
      clear htt
      unfold qv at *
      go_enter Try.func10, Try.ntmps10
      go_wp2_with fail
      generalize ((w.alloc (.cells #[.slice a0 n0 c0, .int .i64 q.mx, .int .i64 q.sk, .int .i64 q.od, .bool q.fi, .bool q.rv] 47)).alloc (.cells #[.slice a1 n1 c1, .int .i64 o.mx, .int .i64 o.sk, .int .i64 o.od, .bool o.fi, .bool o.rv] 47)) = W at HA HK HK2 ⊢
      have HU1 := Lib.hid (fun u (hu : Below W.heap.size W u) => (hu.block _ (Array.getElem?_eq_some_iff.1 HK.out).1).trans HK.out)
      have HU2 := Lib.hid (fun u (hu : Below W.heap.size W u) => (hu.block _ (Array.getElem?_eq_some_iff.1 HK2.out).1).trans HK2.out)
      clear HK HK2
      refine (HLq.out _ HA.out).mono ?_
      rintro e w1 ⟨rfl, hb⟩
      have HC1 := Lib.hid hb
      have HB1 := Lib.hid (HA.out.trans (HC1.out.mono HA.out.size))
      clear hb
      obtain ⟨-, k0, k1, k2, k3, k4, k5⟩ := six_cells (HU1.out _ HC1.out)
      obtain ⟨-, j0, j1, j2, j3, j4, j5⟩ := six_cells (HU2.out _ HC1.out)
      go_wp2_with fail
      refine (HLo.out _ HB1.out).mono ?_
      rintro e w2 ⟨rfl, hb⟩
      have HC2 := Lib.hid (HC1.out.trans (hb.mono HC1.out.size))
      have HB2 := Lib.hid (HA.out.trans (HC2.out.mono HA.out.size))
      clear hb
      clear k0 k1 k2 k3 k4 k5 j0 j1 j2 j3 j4 j5
      obtain ⟨-, k0, k1, k2, k3, k4, k5⟩ := six_cells (HU1.out _ HC2.out)
      obtain ⟨-, j0, j1, j2, j3, j4, j5⟩ := six_cells (HU2.out _ HC2.out)
      go_upto_region 3 with fail
      go_cut [34] (fun s wx => s = .bool false ∧ Hid (Below W.heap.size W wx))
      case first =>
        refine wp_region_held_drew (S := fun u => Below W.heap.size W u) (by kernel_rfl) HC2.out.drew (fun hHeld => ?_)
        clear k0 k1 k2 k3 k4 k5 j0 j1 j2 j3 j4 j5
        refine wpAnyH_take (i := 0) (oi := { dst := some 20, op := Op.load 47 (Operand.tmp 2), type := 47, pos := "law.go:92", after := #[], guard := none }) (v := ?_) rfl (by kernel_rfl) (by kernel_rfl) (by kernel_rfl) (fun _ _ _ h => h) (Or.inl ⟨by rfl, ?_⟩) (by assumption) ?_
        rotate_left
        · intro u hSu; obtain ⟨-, z0, z1, z2, z3, z4, z5⟩ := six_cells (HU1.out _ hSu); obtain ⟨-, y0, y1, y2, y3, y4, y5⟩ := six_cells (HU2.out _ hSu); (go_simp <;> with_reducible rfl)
        try simp only [Act.put, List.setIfInBounds_toArray, List.set_cons_zero, List.set_cons_succ]
        refine wpAnyH_take (i := 1) (oi := { dst := some 21, op := Op.load 47 (Operand.tmp 3), type := 47, pos := "law.go:92", after := #[], guard := none }) (v := ?_) rfl (by kernel_rfl) (by kernel_rfl) (by kernel_rfl) (fun _ _ _ h => h) (Or.inl ⟨by rfl, ?_⟩) (by assumption) ?_
        rotate_left
        · intro u hSu; obtain ⟨-, z0, z1, z2, z3, z4, z5⟩ := six_cells (HU1.out _ hSu); obtain ⟨-, y0, y1, y2, y3, y4, y5⟩ := six_cells (HU2.out _ hSu); (go_simp <;> with_reducible rfl)
        try simp only [Act.put, List.setIfInBounds_toArray, List.set_cons_zero, List.set_cons_succ]
        refine wpAnyH_take (i := 3) (oi := { dst := some 23, op := Op.load 47 (Operand.tmp 2), type := 47, pos := "law.go:92", after := #[], guard := none }) (v := ?_) rfl (by kernel_rfl) (by kernel_rfl) (by kernel_rfl) (fun _ _ _ h => h) (Or.inl ⟨by rfl, ?_⟩) (by assumption) ?_
        rotate_left
        · intro u hSu; obtain ⟨-, z0, z1, z2, z3, z4, z5⟩ := six_cells (HU1.out _ hSu); obtain ⟨-, y0, y1, y2, y3, y4, y5⟩ := six_cells (HU2.out _ hSu); (go_simp <;> with_reducible rfl)
        try simp only [Act.put, List.setIfInBounds_toArray, List.set_cons_zero, List.set_cons_succ]
        refine wpAnyH_take (i := 5) (oi := { dst := some 25, op := Op.load 47 (Operand.tmp 3), type := 47, pos := "law.go:92", after := #[], guard := none }) (v := ?_) rfl (by kernel_rfl) (by kernel_rfl) (by kernel_rfl) (fun _ _ _ h => h) (Or.inl ⟨by rfl, ?_⟩) (by assumption) ?_
        rotate_left
        · intro u hSu; obtain ⟨-, z0, z1, z2, z3, z4, z5⟩ := six_cells (HU1.out _ hSu); obtain ⟨-, y0, y1, y2, y3, y4, y5⟩ := six_cells (HU2.out _ hSu); (go_simp <;> with_reducible rfl)
        try simp only [Act.put, List.setIfInBounds_toArray, List.set_cons_zero, List.set_cons_succ]
        refine wpAnyH_ready (rs := [2]) (by kernel_rfl) (by simp) ?_
        refine AllReadyH.cons (o := { dst := some 22, op := Op.call { callee := Callee.value (Operand.func 32), args := #[Operand.tmp 20, Operand.tmp 21], argTypes := #[47, 47] }, type := 4, pos := "law.go:92", after := #[{ on := 0, ground := Ground.data }, { on := 1, ground := Ground.data }], guard := none }) rfl (fun K hK => ?_) AllReadyH.nil
        go_simp
        refine (HSp.out _ HB2.out.drew).mono ?_
        rintro e w3 ⟨rfl, hb⟩
        dsimp only
        have HC3 := Lib.hid (HC2.out.trans ((below_undrew hb).mono HC2.out.size))
        have HB3 := Lib.hid (HA.out.trans (HC3.out.mono HA.out.size))
        clear hb
        refine hK.out _ _ HC3.out (fun hHeld => ?_)
        clear hK K
        try simp only [Act.put, List.setIfInBounds_toArray, List.set_cons_zero, List.set_cons_succ]
        refine wpAnyH_ready (rs := [4]) (by kernel_rfl) (by simp) ?_
        refine AllReadyH.cons (o := { dst := some 24, op := Op.call { callee := Callee.value (Operand.func 26), args := #[Operand.tmp 23], argTypes := #[47] }, type := 52, pos := "law.go:92", after := #[{ on := 3, ground := Ground.data }, { on := 2, ground := Ground.chain }], guard := none }) rfl (fun K hK => ?_) AllReadyH.nil
        go_simp
        refine (HPq.out _ HB3.out).mono ?_
        rintro e w4 ⟨iv4, rfl, hq4, hb⟩
        obtain ⟨a4, n4, c4, rfl⟩ := hq4.isSlice
        have HQ4 := Lib.hid hq4.is
        clear hq4
        dsimp only
        have HC4 := Lib.hid (HC3.out.trans (hb.mono HC3.out.size))
        have HB4 := Lib.hid (HA.out.trans (HC4.out.mono HA.out.size))
        clear hb
        refine hK.out _ _ HC4.out (fun hHeld => ?_)
        clear hK K
        try simp only [Act.put, List.setIfInBounds_toArray, List.set_cons_zero, List.set_cons_succ]
        refine wpAnyH_ready (rs := [6]) (by kernel_rfl) (by simp) ?_
        refine AllReadyH.cons (o := { dst := some 26, op := Op.call { callee := Callee.value (Operand.func 26), args := #[Operand.tmp 25], argTypes := #[47] }, type := 52, pos := "law.go:92", after := #[{ on := 5, ground := Ground.data }, { on := 4, ground := Ground.chain }], guard := none }) rfl (fun K hK => ?_) AllReadyH.nil
        go_simp
        refine (HPo.out _ HB4.out).mono ?_
        rintro e w5 ⟨iv5, rfl, hq5, hb⟩
        obtain ⟨a5, n5, c5, rfl⟩ := hq5.isSlice
        have HQ5 := Lib.hid hq5.is
        have HQ4b := Lib.hid (HQ4.out.ext hb)
        clear hq5
        dsimp only
        have HC5 := Lib.hid (HC4.out.trans (hb.mono HC4.out.size))
        have HB5 := Lib.hid (HA.out.trans (HC5.out.mono HA.out.size))
        clear hb
        refine hK.out _ _ HC5.out (fun hHeld => ?_)
        clear hK K
        try simp only [Act.put, List.setIfInBounds_toArray, List.set_cons_zero, List.set_cons_succ]
        refine wpAnyH_ready (rs := [7]) (by kernel_rfl) (by simp) ?_
        refine AllReadyH.cons (o := { dst := some 27, op := Op.call { callee := Callee.value (Operand.func 25), args := #[Operand.tmp 24, Operand.tmp 26], argTypes := #[52, 52] }, type := 4, pos := "law.go:92", after := #[{ on := 4, ground := Ground.data }, { on := 6, ground := Ground.data }, { on := 6, ground := Ground.chain }], guard := none }) rfl (fun K hK => ?_) AllReadyH.nil
        go_simp
        refine (HSd.out _ _ _ HQ4b.out HQ5.out).mono ?_
        rintro e w6 ⟨rfl, hb⟩
        dsimp only
        have HC6 := Lib.hid (HC5.out.trans (hb.mono HC5.out.size))
        have HB6 := Lib.hid (HA.out.trans (HC6.out.mono HA.out.size))
        clear hb
        refine hK.out _ _ HC6.out (fun hHeld => ?_)
        clear hK K
        try simp only [Act.put, List.setIfInBounds_toArray, List.set_cons_zero, List.set_cons_succ]
        refine wpAnyH_take (i := 8) (oi := { dst := some 28, op := Op.binOp BinOp.neq 4 (Operand.tmp 22) (Operand.tmp 27) 4, type := 4, pos := "law.go:92", after := #[{ on := 2, ground := Ground.data }, { on := 7, ground := Ground.data }], guard := none }) (v := ?_) rfl (by kernel_rfl) (by kernel_rfl) (by kernel_rfl) (fun _ _ _ h => h) (Or.inl ⟨by rfl, ?_⟩) (by assumption) ?_
        rotate_left
        · intro u hSu; obtain ⟨-, z0, z1, z2, z3, z4, z5⟩ := six_cells (HU1.out _ hSu); obtain ⟨-, y0, y1, y2, y3, y4, y5⟩ := six_cells (HU2.out _ hSu); (go_simp <;> with_reducible rfl)
        try simp only [Act.put, List.setIfInBounds_toArray, List.set_cons_zero, List.set_cons_succ]
        refine wpAnyH_take (i := 9) (oi := { dst := some 29, op := Op.move (Operand.tmp 28), type := 4, pos := "law.go:92", after := #[{ on := 8, ground := Ground.data }, { on := 7, ground := Ground.chain }], guard := none }) (v := ?_) rfl (by kernel_rfl) (by kernel_rfl) (by kernel_rfl) (fun _ _ _ h => h) (Or.inl ⟨by rfl, ?_⟩) (by assumption) ?_
        rotate_left
        · intro u hSu; obtain ⟨-, z0, z1, z2, z3, z4, z5⟩ := six_cells (HU1.out _ hSu); obtain ⟨-, y0, y1, y2, y3, y4, y5⟩ := six_cells (HU2.out _ hSu); (go_simp <;> with_reducible rfl)
        try simp only [Act.put, List.setIfInBounds_toArray, List.set_cons_zero, List.set_cons_succ]
        refine wpAnyH_take (i := 10) (oi := { dst := some 30, op := Op.load 47 (Operand.tmp 2), type := 47, pos := "law.go:92", after := #[{ on := 9, ground := Ground.guard }], guard := some (9, false) }) (v := ?_) rfl (by kernel_rfl) (by kernel_rfl) (by kernel_rfl) (fun _ _ _ h => h) (Or.inl ⟨by rfl, ?_⟩) (by assumption) ?_
        rotate_left
        · intro u hSu; obtain ⟨-, z0, z1, z2, z3, z4, z5⟩ := six_cells (HU1.out _ hSu); obtain ⟨-, y0, y1, y2, y3, y4, y5⟩ := six_cells (HU2.out _ hSu); (go_simp <;> with_reducible rfl)
        try simp only [Act.put, List.setIfInBounds_toArray, List.set_cons_zero, List.set_cons_succ]
        refine wpAnyH_take (i := 11) (oi := { dst := some 31, op := Op.load 47 (Operand.tmp 2), type := 47, pos := "law.go:92", after := #[{ on := 9, ground := Ground.guard }], guard := some (9, false) }) (v := ?_) rfl (by kernel_rfl) (by kernel_rfl) (by kernel_rfl) (fun _ _ _ h => h) (Or.inl ⟨by rfl, ?_⟩) (by assumption) ?_
        rotate_left
        · intro u hSu; obtain ⟨-, z0, z1, z2, z3, z4, z5⟩ := six_cells (HU1.out _ hSu); obtain ⟨-, y0, y1, y2, y3, y4, y5⟩ := six_cells (HU2.out _ hSu); (go_simp <;> with_reducible rfl)
        try simp only [Act.put, List.setIfInBounds_toArray, List.set_cons_zero, List.set_cons_succ]
        refine wpAnyH_ready (rs := [12]) (by kernel_rfl) (by simp) ?_
        refine AllReadyH.cons (o := { dst := some 32, op := Op.call { callee := Callee.value (Operand.func 32), args := #[Operand.tmp 30, Operand.tmp 31], argTypes := #[47, 47] }, type := 4, pos := "law.go:92", after := #[{ on := 10, ground := Ground.data }, { on := 11, ground := Ground.data }, { on := 9, ground := Ground.chain }, { on := 9, ground := Ground.guard }], guard := some (9, false) }) rfl (fun K hK => ?_) AllReadyH.nil
        go_simp
        refine (HSq.out _ HB6.out).mono ?_
        rintro e w7 ⟨rfl, hb⟩
        dsimp only
        have HC7 := Lib.hid (HC6.out.trans (hb.mono HC6.out.size))
        have HB7 := Lib.hid (HA.out.trans (HC7.out.mono HA.out.size))
        clear hb
        refine hK.out _ _ HC7.out (fun hHeld => ?_)
        clear hK K
        try simp only [Act.put, List.setIfInBounds_toArray, List.set_cons_zero, List.set_cons_succ]
        refine wpAnyH_take (i := 13) (oi := { dst := some 33, op := Op.unOp UnOp.not 4 (Operand.tmp 32), type := 4, pos := "law.go:92", after := #[{ on := 12, ground := Ground.data }, { on := 9, ground := Ground.guard }], guard := some (9, false) }) (v := ?_) rfl (by kernel_rfl) (by kernel_rfl) (by kernel_rfl) (fun _ _ _ h => h) (Or.inl ⟨by rfl, ?_⟩) (by assumption) ?_
        rotate_left
        · intro u hSu; obtain ⟨-, z0, z1, z2, z3, z4, z5⟩ := six_cells (HU1.out _ hSu); obtain ⟨-, y0, y1, y2, y3, y4, y5⟩ := six_cells (HU2.out _ hSu); (go_simp <;> with_reducible rfl)
        try simp only [Act.put, List.setIfInBounds_toArray, List.set_cons_zero, List.set_cons_succ]
        refine wpAnyH_take (i := 14) (oi := { dst := some 34, op := Op.pick (Operand.tmp 29) (Operand.const (Value.bool true)) (Operand.tmp 33), type := 4, pos := "law.go:92", after := #[{ on := 9, ground := Ground.data }, { on := 13, ground := Ground.data }], guard := none }) (v := ?_) rfl (by kernel_rfl) (by kernel_rfl) (by kernel_rfl) (fun _ _ _ h => h) (Or.inl ⟨by rfl, ?_⟩) (by assumption) ?_
        rotate_left
        · intro u hSu; obtain ⟨-, z0, z1, z2, z3, z4, z5⟩ := six_cells (HU1.out _ hSu); obtain ⟨-, y0, y1, y2, y3, y4, y5⟩ := six_cells (HU2.out _ hSu); (go_simp <;> with_reducible rfl)
        try simp only [Act.put, List.setIfInBounds_toArray, List.set_cons_zero, List.set_cons_succ]
        refine wpAnyH_done (by kernel_rfl) ?_ _
        go_wp2_with fail
        go_meet
        exact ⟨rfl, HC7⟩
      case rest =>
        clear k0 k1 k2 k3 k4 k5 j0 j1 j2 j3 j4 j5
        obtain ⟨rfl, HC3⟩ := hcut
        have HB3 := Lib.hid (HA.out.trans (HC3.out.mono HA.out.size))
        obtain ⟨-, k0, k1, k2, k3, k4, k5⟩ := six_cells (HU1.out _ HC3.out)
        go_wp2_with fail
        refine (HPr.out _ HB3.out).mono ?_
        rintro e w4 ⟨rfl, hb⟩
        have HC4 := Lib.hid (HC3.out.trans (hb.mono HC3.out.size))
        have HB4 := Lib.hid (HA.out.trans (HC4.out.mono HA.out.size))
        clear hb k0 k1 k2 k3 k4 k5
        obtain ⟨-, k0, k1, k2, k3, k4, k5⟩ := six_cells (HU1.out _ HC4.out)
        rcases print_all q with ⟨en, he, hpr⟩ | ⟨hok, hl201, hpr⟩
        · rw [hpr]
          dsimp only
          have hne : ((en : Int) != 0) = true := by rw [bne_iff_ne]; omega
          clear he hpr
          go_wp2_with fail
          refine (HW.out _ HB4.out).mono ?_
          rintro e w9 ⟨rfl, hb⟩
          have HB9 := Lib.hid (HB4.out.trans (hb.mono HB4.out.size))
          clear hb
          go_wp2_with fail
          go_ret
          exact ⟨rfl, HB9.out⟩
        · rw [hpr]
          dsimp only
          have HBk := Lib.hid (print_back hok hl201)
          obtain ⟨T, hT⟩ : ∃ T, Hid ((qyT q).tail = T) := ⟨_, Lib.hid rfl⟩
          rw [hT.out] at HBk ⊢
          have hTl : T.length ≤ 200 := by rw [← hT.out, List.length_tail]; omega
          have HP2 := Lib.hid (fun u (hu : Below w.heap.size w u) => parse1_any T u (by omega) (HM.out.ext hu))
          clear hpr hl201 hok
          go_wp2_with fail
          rcases HBk.out with hback | ⟨p2, htk⟩
          · rw [hback] at HP2
            clear hback
            refine (HP2.out _ HB4.out).mono ?_
            rintro e w5 ⟨hb, iv5, rfl, hq5⟩
            have HQ5 := Lib.hid hq5.is
            obtain ⟨a5, n5, c5, rfl⟩ := hq5.isSlice
            have HC5 := Lib.hid (HC4.out.trans (hb.mono HC4.out.size))
            have HB5 := Lib.hid (HA.out.trans (HC5.out.mono HA.out.size))
            clear hb hq5 k0 k1 k2 k3 k4 k5
            unfold qv
            dsimp only
            have HCo := Lib.hid (fun o => HC5.out.alloc HC5.out.size o)
            have HBo := Lib.hid (fun o => HB5.out.alloc HB5.out.size o)
            obtain ⟨-, k0, k1, k2, k3, k4, k5⟩ := six_cells (HU1.out _ HC5.out)
            go_upto_region 12 with fail
            have hX0 := heap_alloc_new w5 (.cells #[.slice a5 n5 c5, .int .i64 q.mx, .int .i64 q.sk, .int .i64 q.od, .bool q.fi, .bool q.rv] 47)
            have hszv : w5.heap.size < (w5.alloc (.cells #[.slice a5 n5 c5, .int .i64 q.mx, .int .i64 q.sk, .int .i64 q.od, .bool q.fi, .bool q.rv] 47)).heap.size := by simp
            have HV0 := HBo.out (.cells #[.slice a5 n5 c5, .int .i64 q.mx, .int .i64 q.sk, .int .i64 q.od, .bool q.fi, .bool q.rv] 47)
            have HCV0 := HCo.out (.cells #[.slice a5 n5 c5, .int .i64 q.mx, .int .i64 q.sk, .int .i64 q.od, .bool q.fi, .bool q.rv] 47)
            have HQV0 := HQ5.out.ext ((Below.refl w5.heap.size w5).alloc (Nat.le_refl _) (.cells #[.slice a5 n5 c5, .int .i64 q.mx, .int .i64 q.sk, .int .i64 q.od, .bool q.fi, .bool q.rv] 47))
            generalize w5.alloc (.cells #[.slice a5 n5 c5, .int .i64 q.mx, .int .i64 q.sk, .int .i64 q.od, .bool q.fi, .bool q.rv] 47) = V at hX0 hszv HV0 HCV0 HQV0 ⊢
            have HUr := Lib.hid (fun u (hu : Below V.heap.size V u) => (hu.block _ hszv).trans hX0)
            have HV := Lib.hid HV0
            have HCV := Lib.hid HCV0
            have HQV := Lib.hid HQV0
            clear hX0 hszv HV0 HCV0 HQV0 k0 k1 k2 k3 k4 k5
            have HPr5 := Lib.hid (fun u (hu : IS u (.slice a5 n5 c5) q.its) => plain_any (.slice a5 n5 c5) q u hu (lg_few hlq))
            have HSd2 : Hid (∀ u v1 v2, IS u v1 q.its → IS u v2 q.its → Calls Try.prog 25 #[.agg #[v1, .int .i64 q.mx, .int .i64 q.sk, .int .i64 q.od, .bool q.fi, .bool q.rv], .agg #[v2, .int .i64 q.mx, .int .i64 q.sk, .int .i64 q.od, .bool q.fi, .bool q.rv]] u fun e w' => e = .returned (.bool true) ∧ Below u.heap.size u w') :=
              Lib.hid (fun u v1 v2 g1 g2 => (dsame_any v1 v2 q q u g1 g2).mono (fun e w' ⟨he, hb⟩ => ⟨by rw [he, decide_eq_true rfl], hb⟩))
            unfold qv at HPr5
            refine wp_region_held_drew (S := fun u => Below V.heap.size V u) (by kernel_rfl) (Below.refl _ _).drew (fun hHeld => ?_)
            refine wpAnyH_take (i := 0) (oi := { dst := some 67, op := Op.move (Operand.tmp 9), type := 24, pos := "law.go:104", after := #[], guard := none }) (v := ?_) rfl (by kernel_rfl) (by kernel_rfl) (by kernel_rfl) (fun _ _ _ h => h) (Or.inl ⟨by rfl, ?_⟩) (by assumption) ?_
            rotate_left
            · intro u hSu; obtain ⟨-, z0, z1, z2, z3, z4, z5⟩ := six_cells (HU1.out _ (HCV.out.trans (hSu.mono HCV.out.size))); obtain ⟨-, y0, y1, y2, y3, y4, y5⟩ := six_cells (HUr.out _ hSu); (go_simp <;> with_reducible rfl)
            try simp only [Act.put, List.setIfInBounds_toArray, List.set_cons_zero, List.set_cons_succ]
            refine wpAnyH_take (i := 1) (oi := { dst := some 68, op := Op.binOp BinOp.eql 24 (Operand.tmp 67) (Operand.const (Value.int IntKind.i64 0)) 24, type := 4, pos := "law.go:104", after := #[{ on := 0, ground := Ground.data }], guard := none }) (v := ?_) rfl (by kernel_rfl) (by kernel_rfl) (by kernel_rfl) (fun _ _ _ h => h) (Or.inl ⟨by rfl, ?_⟩) (by assumption) ?_
            rotate_left
            · intro u hSu; obtain ⟨-, z0, z1, z2, z3, z4, z5⟩ := six_cells (HU1.out _ (HCV.out.trans (hSu.mono HCV.out.size))); obtain ⟨-, y0, y1, y2, y3, y4, y5⟩ := six_cells (HUr.out _ hSu); (go_simp <;> with_reducible rfl)
            try simp only [Act.put, List.setIfInBounds_toArray, List.set_cons_zero, List.set_cons_succ]
            refine wpAnyH_take (i := 2) (oi := { dst := some 69, op := Op.move (Operand.tmp 68), type := 4, pos := "law.go:104", after := #[{ on := 1, ground := Ground.data }], guard := none }) (v := ?_) rfl (by kernel_rfl) (by kernel_rfl) (by kernel_rfl) (fun _ _ _ h => h) (Or.inl ⟨by rfl, ?_⟩) (by assumption) ?_
            rotate_left
            · intro u hSu; obtain ⟨-, z0, z1, z2, z3, z4, z5⟩ := six_cells (HU1.out _ (HCV.out.trans (hSu.mono HCV.out.size))); obtain ⟨-, y0, y1, y2, y3, y4, y5⟩ := six_cells (HUr.out _ hSu); (go_simp <;> with_reducible rfl)
            try simp only [Act.put, List.setIfInBounds_toArray, List.set_cons_zero, List.set_cons_succ]
            refine wpAnyH_take (i := 3) (oi := { dst := some 70, op := Op.load 47 (Operand.tmp 7), type := 47, pos := "law.go:104", after := #[{ on := 2, ground := Ground.guard }], guard := some (2, true) }) (v := ?_) rfl (by kernel_rfl) (by kernel_rfl) (by kernel_rfl) (fun _ _ _ h => h) (Or.inl ⟨by rfl, ?_⟩) (by assumption) ?_
            rotate_left
            · intro u hSu; obtain ⟨-, z0, z1, z2, z3, z4, z5⟩ := six_cells (HU1.out _ (HCV.out.trans (hSu.mono HCV.out.size))); obtain ⟨-, y0, y1, y2, y3, y4, y5⟩ := six_cells (HUr.out _ hSu); (go_simp <;> with_reducible rfl)
            try simp only [Act.put, List.setIfInBounds_toArray, List.set_cons_zero, List.set_cons_succ]
            refine wpAnyH_take (i := 5) (oi := { dst := some 72, op := Op.load 47 (Operand.tmp 2), type := 47, pos := "law.go:104", after := #[{ on := 2, ground := Ground.guard }], guard := some (2, true) }) (v := ?_) rfl (by kernel_rfl) (by kernel_rfl) (by kernel_rfl) (fun _ _ _ h => h) (Or.inl ⟨by rfl, ?_⟩) (by assumption) ?_
            rotate_left
            · intro u hSu; obtain ⟨-, z0, z1, z2, z3, z4, z5⟩ := six_cells (HU1.out _ (HCV.out.trans (hSu.mono HCV.out.size))); obtain ⟨-, y0, y1, y2, y3, y4, y5⟩ := six_cells (HUr.out _ hSu); (go_simp <;> with_reducible rfl)
            try simp only [Act.put, List.setIfInBounds_toArray, List.set_cons_zero, List.set_cons_succ]
            refine wpAnyH_ready (rs := [4]) (by kernel_rfl) (by simp) ?_
            refine AllReadyH.cons (o := { dst := some 71, op := Op.call { callee := Callee.value (Operand.func 26), args := #[Operand.tmp 70], argTypes := #[47] }, type := 52, pos := "law.go:104", after := #[{ on := 3, ground := Ground.data }, { on := 2, ground := Ground.chain }, { on := 2, ground := Ground.guard }], guard := some (2, true) }) rfl (fun K hK => ?_) AllReadyH.nil
            go_simp
            refine (HPr5.out _ (HQV.out.ext (Below.refl _ _).drew)).mono ?_
            rintro e w6 ⟨iv6, rfl, hq6, hb⟩
            obtain ⟨a6, n6, c6, rfl⟩ := hq6.isSlice
            have HQ6 := Lib.hid hq6.is
            clear hq6
            dsimp only
            have HS6 : Hid (Below V.heap.size V w6) := Lib.hid ((below_undrew hb))
            have HB6 := Lib.hid (HV.out.trans (HS6.out.mono HV.out.size))
            clear hb
            refine hK.out _ _ HS6.out (fun hHeld => ?_)
            clear hK K
            try simp only [Act.put, List.setIfInBounds_toArray, List.set_cons_zero, List.set_cons_succ]
            refine wpAnyH_ready (rs := [6]) (by kernel_rfl) (by simp) ?_
            refine AllReadyH.cons (o := { dst := some 73, op := Op.call { callee := Callee.value (Operand.func 26), args := #[Operand.tmp 72], argTypes := #[47] }, type := 52, pos := "law.go:104", after := #[{ on := 5, ground := Ground.data }, { on := 4, ground := Ground.chain }, { on := 2, ground := Ground.guard }], guard := some (2, true) }) rfl (fun K hK => ?_) AllReadyH.nil
            go_simp
            refine (HPq.out _ HB6.out).mono ?_
            rintro e w7 ⟨iv7, rfl, hq7, hb⟩
            obtain ⟨a7, n7, c7, rfl⟩ := hq7.isSlice
            have HQ7 := Lib.hid hq7.is
            have HQ6b := Lib.hid (HQ6.out.ext hb)
            clear hq7
            dsimp only
            have HS7 : Hid (Below V.heap.size V w7) := Lib.hid (HS6.out.trans (hb.mono HS6.out.size))
            have HB7 := Lib.hid (HV.out.trans (HS7.out.mono HV.out.size))
            clear hb
            refine hK.out _ _ HS7.out (fun hHeld => ?_)
            clear hK K
            try simp only [Act.put, List.setIfInBounds_toArray, List.set_cons_zero, List.set_cons_succ]
            refine wpAnyH_ready (rs := [7]) (by kernel_rfl) (by simp) ?_
            refine AllReadyH.cons (o := { dst := some 74, op := Op.call { callee := Callee.value (Operand.func 25), args := #[Operand.tmp 71, Operand.tmp 73], argTypes := #[52, 52] }, type := 4, pos := "law.go:104", after := #[{ on := 4, ground := Ground.data }, { on := 6, ground := Ground.data }, { on := 6, ground := Ground.chain }, { on := 2, ground := Ground.guard }], guard := some (2, true) }) rfl (fun K hK => ?_) AllReadyH.nil
            go_simp
            refine (HSd2.out _ _ _ HQ6b.out HQ7.out).mono ?_
            rintro e w8 ⟨rfl, hb⟩
            dsimp only
            have HS8 : Hid (Below V.heap.size V w8) := Lib.hid (HS7.out.trans (hb.mono HS7.out.size))
            have HB8 := Lib.hid (HV.out.trans (HS8.out.mono HV.out.size))
            clear hb
            refine hK.out _ _ HS8.out (fun hHeld => ?_)
            clear hK K
            try simp only [Act.put, List.setIfInBounds_toArray, List.set_cons_zero, List.set_cons_succ]
            refine wpAnyH_take (i := 8) (oi := { dst := some 75, op := Op.pick (Operand.tmp 69) (Operand.tmp 74) (Operand.const (Value.bool false)), type := 4, pos := "law.go:104", after := #[{ on := 2, ground := Ground.data }, { on := 7, ground := Ground.data }], guard := none }) (v := ?_) rfl (by kernel_rfl) (by kernel_rfl) (by kernel_rfl) (fun _ _ _ h => h) (Or.inl ⟨by rfl, ?_⟩) (by assumption) ?_
            rotate_left
            · intro u hSu; obtain ⟨-, z0, z1, z2, z3, z4, z5⟩ := six_cells (HU1.out _ (HCV.out.trans (hSu.mono HCV.out.size))); obtain ⟨-, y0, y1, y2, y3, y4, y5⟩ := six_cells (HUr.out _ hSu); (go_simp <;> with_reducible rfl)
            try simp only [Act.put, List.setIfInBounds_toArray, List.set_cons_zero, List.set_cons_succ]
            refine wpAnyH_take (i := 9) (oi := { dst := some 76, op := Op.move (Operand.tmp 75), type := 4, pos := "law.go:104", after := #[{ on := 8, ground := Ground.data }, { on := 7, ground := Ground.chain }], guard := none }) (v := ?_) rfl (by kernel_rfl) (by kernel_rfl) (by kernel_rfl) (fun _ _ _ h => h) (Or.inl ⟨by rfl, ?_⟩) (by assumption) ?_
            rotate_left
            · intro u hSu; obtain ⟨-, z0, z1, z2, z3, z4, z5⟩ := six_cells (HU1.out _ (HCV.out.trans (hSu.mono HCV.out.size))); obtain ⟨-, y0, y1, y2, y3, y4, y5⟩ := six_cells (HUr.out _ hSu); (go_simp <;> with_reducible rfl)
            try simp only [Act.put, List.setIfInBounds_toArray, List.set_cons_zero, List.set_cons_succ]
            refine wpAnyH_ready (rs := [10]) (by kernel_rfl) (by simp) ?_
            refine AllReadyH.cons (o := { dst := some 77, op := Op.call { callee := Callee.value (Operand.func 22), args := #[], argTypes := #[] }, type := 4, pos := "law.go:104", after := #[{ on := 9, ground := Ground.chain }, { on := 9, ground := Ground.guard }], guard := some (9, true) }) rfl (fun K hK => ?_) AllReadyH.nil
            go_simp
            refine (HW.out _ HB8.out).mono ?_
            rintro e w9 ⟨rfl, hb⟩
            dsimp only
            have HS9 : Hid (Below V.heap.size V w9) := Lib.hid (HS8.out.trans (hb.mono HS8.out.size))
            have HB9 := Lib.hid (HV.out.trans (HS9.out.mono HV.out.size))
            clear hb
            refine hK.out _ _ HS9.out (fun hHeld => ?_)
            clear hK K
            try simp only [Act.put, List.setIfInBounds_toArray, List.set_cons_zero, List.set_cons_succ]
            refine wpAnyH_take (i := 11) (oi := { dst := some 78, op := Op.pick (Operand.tmp 76) (Operand.tmp 77) (Operand.const (Value.bool false)), type := 4, pos := "law.go:104", after := #[{ on := 9, ground := Ground.data }, { on := 10, ground := Ground.data }], guard := none }) (v := ?_) rfl (by kernel_rfl) (by kernel_rfl) (by kernel_rfl) (fun _ _ _ h => h) (Or.inl ⟨by rfl, ?_⟩) (by assumption) ?_
            rotate_left
            · intro u hSu; obtain ⟨-, z0, z1, z2, z3, z4, z5⟩ := six_cells (HU1.out _ (HCV.out.trans (hSu.mono HCV.out.size))); obtain ⟨-, y0, y1, y2, y3, y4, y5⟩ := six_cells (HUr.out _ hSu); (go_simp <;> with_reducible rfl)
            try simp only [Act.put, List.setIfInBounds_toArray, List.set_cons_zero, List.set_cons_succ]
            refine wpAnyH_ready (rs := [12]) (by kernel_rfl) (by simp) ?_
            refine AllReadyH.cons (o := { dst := some 4, op := Op.assign (Operand.tmp 78), type := 4, pos := "law.go:104", after := #[{ on := 11, ground := Ground.data }, { on := 10, ground := Ground.chain }, { on := 0, ground := Ground.phase }, { on := 1, ground := Ground.phase }, { on := 2, ground := Ground.phase }, { on := 3, ground := Ground.phase }, { on := 4, ground := Ground.phase }, { on := 5, ground := Ground.phase }, { on := 6, ground := Ground.phase }, { on := 7, ground := Ground.phase }, { on := 8, ground := Ground.phase }, { on := 9, ground := Ground.phase }, { on := 10, ground := Ground.phase }, { on := 11, ground := Ground.phase }], guard := none }) rfl (fun K hK => ?_) AllReadyH.nil
            go_simp
            refine hK.out _ _ HS9.out (fun hHeld => ?_)
            clear hK K
            try simp only [Act.put, List.setIfInBounds_toArray, List.set_cons_zero, List.set_cons_succ]
            refine wpAnyH_done (by kernel_rfl) ?_ _
            go_wp2_with fail
            go_ret
            exact ⟨rfl, HB9.out⟩
          · have hpt := parse_tok htk
            rw [hpt] at HP2
            have HTk := Lib.hid (fun u => rtokens_any T u (by omega))
            rw [← both_tokens, htk] at HTk
            clear hpt htk
            refine (HP2.out _ HB4.out).mono ?_
            rintro e w5 ⟨hb, iv5, rfl, hq5⟩
            obtain ⟨a5, n5, c5, rfl⟩ := hq5.isSlice
            have HB5 := Lib.hid (HB4.out.trans (hb.mono HB4.out.size))
            clear hb hq5 k0 k1 k2 k3 k4 k5
            unfold qv zQy
            dsimp only
            have HBo := Lib.hid (fun o => HB5.out.alloc HB5.out.size o)
            go_wp2_with fail
            refine (HTk.out _).mono ?_
            rintro e w6 ⟨hb, rfl⟩
            have HB6 := Lib.hid ((HBo.out _).trans (hb.mono (HBo.out _).size))
            clear hb
            go_wp2_with fail
            refine (HW.out _ HB6.out).mono ?_
            rintro e w9 ⟨rfl, hb⟩
            have HB9 := Lib.hid (HB6.out.trans (hb.mono HB6.out.size))
            clear hb
            go_wp2_with fail
            go_ret
            exact ⟨rfl, HB9.out⟩
    · rw [hbq] at HLq
      rw [hbo] at HLo
      unfold qv at *
      go_enter Try.func10, Try.ntmps10
      go_wp2_with fail
      generalize ((w.alloc (.cells #[.slice a0 n0 c0, .int .i64 q.mx, .int .i64 q.sk, .int .i64 q.od, .bool q.fi, .bool q.rv] 47)).alloc (.cells #[.slice a1 n1 c1, .int .i64 o.mx, .int .i64 o.sk, .int .i64 o.od, .bool o.fi, .bool o.rv] 47)) = W at HA HK HK2 ⊢
      have HU1 := Lib.hid (fun u (hu : Below W.heap.size W u) => (hu.block _ (Array.getElem?_eq_some_iff.1 HK.out).1).trans HK.out)
      have HU2 := Lib.hid (fun u (hu : Below W.heap.size W u) => (hu.block _ (Array.getElem?_eq_some_iff.1 HK2.out).1).trans HK2.out)
      clear HK HK2
      refine (HLq.out _ HA.out).mono ?_
      rintro e w1 ⟨rfl, hb⟩
      have HC1 := Lib.hid hb
      have HB1 := Lib.hid (HA.out.trans (HC1.out.mono HA.out.size))
      clear hb
      obtain ⟨-, k0, k1, k2, k3, k4, k5⟩ := six_cells (HU1.out _ HC1.out)
      obtain ⟨-, j0, j1, j2, j3, j4, j5⟩ := six_cells (HU2.out _ HC1.out)
      go_wp2_with fail
      refine (HLo.out _ HB1.out).mono ?_
      rintro e w2 ⟨rfl, hb⟩
      have HB2 := Lib.hid (HB1.out.trans (hb.mono HB1.out.size))
      clear hb
      go_wp2_with fail
      refine (HW.out _ HB2.out).mono ?_
      rintro e w9 ⟨rfl, hb⟩
      have HB9 := Lib.hid (HB2.out.trans (hb.mono HB2.out.size))
      clear hb
      go_wp2_with fail
      go_ret
      exact ⟨rfl, HB9.out⟩
  · rw [hbq] at HLq
    unfold qv at *
    go_enter Try.func10, Try.ntmps10
    go_wp2_with fail
    generalize ((w.alloc (.cells #[.slice a0 n0 c0, .int .i64 q.mx, .int .i64 q.sk, .int .i64 q.od, .bool q.fi, .bool q.rv] 47)).alloc (.cells #[.slice a1 n1 c1, .int .i64 o.mx, .int .i64 o.sk, .int .i64 o.od, .bool o.fi, .bool o.rv] 47)) = W at HA HK HK2 ⊢
    have HU1 := Lib.hid (fun u (hu : Below W.heap.size W u) => (hu.block _ (Array.getElem?_eq_some_iff.1 HK.out).1).trans HK.out)
    have HU2 := Lib.hid (fun u (hu : Below W.heap.size W u) => (hu.block _ (Array.getElem?_eq_some_iff.1 HK2.out).1).trans HK2.out)
    clear HK HK2
    refine (HLq.out _ HA.out).mono ?_
    rintro e w1 ⟨rfl, hb⟩
    have HC1 := Lib.hid hb
    have HB1 := Lib.hid (HA.out.trans (HC1.out.mono HA.out.size))
    clear hb
    obtain ⟨-, k0, k1, k2, k3, k4, k5⟩ := six_cells (HU1.out _ HC1.out)
    obtain ⟨-, j0, j1, j2, j3, j4, j5⟩ := six_cells (HU2.out _ HC1.out)
    go_wp2_with fail
    refine (HW.out _ HB1.out).mono ?_
    rintro e w9 ⟨rfl, hb⟩
    have HB9 := Lib.hid (HB1.out.trans (hb.mono HB1.out.size))
    clear hb
    go_wp2_with fail
    go_ret
    exact ⟨rfl, HB9.out⟩
end Go.Proofs.Ytolahnnkdpbdfaa
