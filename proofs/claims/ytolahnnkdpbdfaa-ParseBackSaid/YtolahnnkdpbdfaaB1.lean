/-
  Layer 27: what Tokens finds in a text is the text, and right. Plain: no program in sight.
-/
import Derived.Test.YtolahnnkdpbdfaaJ1
namespace Go.Lex
theorem down_kind (l : List UInt8) : ∀ (N : Nat) {kd n : Nat}, down l N = (kd, n) → n ≠ 0 → kind (l.take n) = kd ∧ kd ≠ 0
  | 0, kd, n, h, hn => by rw [down] at h; cases h; exact absurd rfl hn
  | N + 1, kd, n, h, hn => by
    rw [down] at h
    by_cases hs : skip l (N + 1) = true
    · rw [if_pos hs] at h; exact down_kind l N h hn
    · rw [if_neg hs] at h
      cases h
      exact ⟨rfl, fun h0 => hs (skip_of h0)⟩
theorem first_kind {l : List UInt8} {kd n : Nat} (h : first l = (kd, n)) (hn : n ≠ 0) : kind (l.take n) = kd ∧ kd ≠ 0 := by
  unfold first at h
  by_cases h3 : l.take 3 = [46, 46, 46]
  · rw [if_pos h3] at h; cases h; rw [h3]; decide
  · rw [if_neg h3] at h
    by_cases h2 : l.take 2 = [46, 46]
    · rw [if_pos h2] at h; cases h; rw [h2]; decide
    · rw [if_neg h2] at h; exact down_kind l _ h hn
theorem right_one {r : List UInt8} {kd n : Nat} (hr : r ≠ []) (h : one r = (kd, n)) (hn : n ≠ 0) (p : Nat) : right (kd : Nat) (r.take n) (p : Nat) = true := by
  have hf : first r = (kd, n) := by
    rcases one_first r hr with ⟨h1, _⟩ | h1
    · rw [h] at h1; exact absurd h1 hn
    · rw [← h1, h]
  obtain ⟨h1, h2⟩ := first_kind hf hn
  rw [right_same, rright, decide_eq_true_eq, h1]
  exact ⟨by omega, rfl, by omega⟩
def tkOf (t : Tok) : Tk := ((t.1 : Nat), t.2.1, (t.2.2 : Nat))
def offOk : Nat → List Tk → Prop
  | _, [] => True
  | p, t :: r => t.2.2 = (p : Nat) ∧ offOk (p + t.2.1.length) r
theorem tkG_good : ∀ (f : Nat) (r : List UInt8) (p c : Nat) (m : List Tok), r.length < f → tkG one f r p c = .ok m → m ≠ [] ∧ okG (m.map tkOf) = true ∧ text (m.map tkOf) = r ∧ offOk p (m.map tkOf)
  | 0, r, p, c, m, hf, _ => by omega
  | f + 1, r, p, c, m, hf, h => by
    by_cases hr : r = []
    · subst hr
      rw [tkG_end] at h
      by_cases h60 : c = 60
      · rw [if_pos h60] at h; cases h
      · rw [if_neg h60] at h; cases h
        refine ⟨by simp, ?_, by simp [text, tkOf], by simp [offOk, tkOf]⟩
        simp [okG, okTk, tkOf, right]
    · obtain ⟨⟨kd, n⟩, ho⟩ : ∃ q, one r = q := ⟨_, rfl⟩
      by_cases hn : n = 0
      · subst hn; rw [tkG_bad hr ho] at h; cases h
      · by_cases h60 : c = 60
        · subst h60; rw [tkG_full hr ho hn] at h; cases h
        · have hg := tkG_go (o := one) (f := f) (p := p) hr ho hn h60 []
          rw [pre_nil] at hg
          rw [hg] at h
          obtain ⟨q, hq⟩ : ∃ q, tkG one f (r.drop n) (p + n) (c + 1) = q := ⟨_, rfl⟩
          rw [hq] at h
          have hl : n ≤ r.length := by have := one_le r; rw [ho] at this; exact this
          have hlr : 0 < r.length := List.length_pos_iff.2 hr
          cases q with
          | error e => simp [pre] at h
          | ok m' =>
            simp only [pre, Except.ok.injEq, List.nil_append] at h
            subst h
            obtain ⟨i1, i2, i3, i4⟩ := tkG_good f (r.drop n) (p + n) (c + 1) m' (by simp; omega) hq
            have hkd := one_kind r
            rw [ho] at hkd
            refine ⟨by simp, ?_, ?_, ?_⟩
            · show (okTk (tkOf (kd, r.take n, p)) (decide (m'.map tkOf = [])) && okG (m'.map tkOf)) = true
              rw [i2, okTk]
              have h1 : right (tkOf (kd, r.take n, p)).1 (tkOf (kd, r.take n, p)).2.1 (tkOf (kd, r.take n, p)).2.2 = true := right_one hr ho hn p
              have h2 : decide ((tkOf (kd, r.take n, p)).1 = 9) = false := decide_eq_false (by show ¬ ((kd : Nat) : Int) = 9; simp only at hkd; omega)
              rw [h1, h2, decide_eq_false (by simpa using i1)]; rfl
            · show text (tkOf (kd, r.take n, p) :: m'.map tkOf) = r
              have : text (tkOf (kd, r.take n, p) :: m'.map tkOf) = r.take n ++ text (m'.map tkOf) := rfl
              rw [this, i3, List.take_append_drop]
            · show _ ∧ _
              refine ⟨rfl, ?_⟩
              have : p + (tkOf (kd, r.take n, p)).2.1.length = p + n := by show p + (r.take n).length = _; rw [List.length_take]; omega
              rw [this]; exact i4
theorem tkG_err : ∀ (f : Nat) (r : List UInt8) (p c q e : Nat), r.length < f → tkG one f r p c = .error (q, e) → e ≠ 0 ∧ q ≤ p + r.length
  | 0, r, p, c, q, e, hf, _ => by omega
  | f + 1, r, p, c, q, e, hf, h => by
    by_cases hr : r = []
    · subst hr
      rw [tkG_end] at h
      by_cases h60 : c = 60
      · rw [if_pos h60] at h; cases h; simp
      · rw [if_neg h60] at h; cases h
    · obtain ⟨⟨kd, n⟩, ho⟩ : ∃ q, one r = q := ⟨_, rfl⟩
      by_cases hn : n = 0
      · subst hn; rw [tkG_bad hr ho] at h; cases h; simp
      · by_cases h60 : c = 60
        · subst h60; rw [tkG_full hr ho hn] at h; cases h; simp
        · have hg := tkG_go (o := one) (f := f) (p := p) hr ho hn h60 []
          rw [pre_nil] at hg
          rw [hg] at h
          obtain ⟨x, hq⟩ : ∃ q, tkG one f (r.drop n) (p + n) (c + 1) = q := ⟨_, rfl⟩
          rw [hq] at h
          have hl : n ≤ r.length := by have := one_le r; rw [ho] at this; exact this
          have hlr : 0 < r.length := List.length_pos_iff.2 hr
          cases x with
          | ok m' => simp [pre] at h
          | error e' =>
            simp only [pre, Except.error.injEq] at h
            subst h
            obtain ⟨i1, i2⟩ := tkG_err f (r.drop n) (p + n) (c + 1) q e (by simp; omega) hq
            rw [List.length_drop] at i2
            exact ⟨i1, by omega⟩
theorem off_at : ∀ (l : List Tk) (p : Nat), offOk p l → ∀ k (hk : k < l.length), l[k].2.2 = ((p + (text (l.take k)).length : Nat) : Int)
  | t :: r, p, h, 0, _ => by simp [text]; exact h.1
  | t :: r, p, h, k + 1, hk => by
    have := off_at r _ h.2 k (by simpa using hk)
    simp only [List.getElem_cons_succ, List.take_succ_cons]
    rw [this]
    have e : text (t :: r.take k) = t.2.1 ++ text (r.take k) := rfl
    rw [e, List.length_append]
    omega
theorem tokens_good {l : List UInt8} {m : List Tok} (h : tokens one l = .ok m) : l.length ≤ 200 ∧ m ≠ [] ∧ okG (m.map tkOf) = true ∧ text (m.map tkOf) = l ∧ (∀ k (hk : k < (m.map tkOf).length), (m.map tkOf)[k].2.2 = ((text ((m.map tkOf).take k)).length : Nat)) ∧ join (m.map tkOf) = (l, 0) := by
  unfold tokens at h
  by_cases hl : 200 < l.length
  · rw [if_pos hl] at h; cases h
  · rw [if_neg hl] at h
    obtain ⟨h1, h2, h3, h4⟩ := tkG_good _ _ _ _ _ (by omega) h
    refine ⟨by omega, h1, h2, h3, fun k hk => ?_, ?_⟩
    · have := off_at _ _ h4 k hk
      rwa [Nat.zero_add] at this
    · rw [join, if_neg (by simp [h1, h2]), h3, if_neg hl]
theorem tkG_len : ∀ (f : Nat) (r : List UInt8) (p c : Nat) (m : List Tok), c ≤ 60 → tkG one f r p c = .ok m → m.length + c ≤ 61
  | 0, r, p, c, m, hc, h => by rw [tkG] at h; cases h
  | f + 1, r, p, c, m, hc, h => by
    by_cases hr : r = []
    · subst hr
      rw [tkG_end] at h
      by_cases h60 : c = 60
      · rw [if_pos h60] at h; cases h
      · rw [if_neg h60] at h; cases h; simp; omega
    · obtain ⟨⟨kd, n⟩, ho⟩ : ∃ q, one r = q := ⟨_, rfl⟩
      by_cases hn : n = 0
      · subst hn; rw [tkG_bad hr ho] at h; cases h
      · by_cases h60 : c = 60
        · subst h60; rw [tkG_full hr ho hn] at h; cases h
        · have hg := tkG_go (o := one) (f := f) (p := p) hr ho hn h60 []
          rw [pre_nil] at hg
          rw [hg] at h
          obtain ⟨q, hq⟩ : ∃ q, tkG one f (r.drop n) (p + n) (c + 1) = q := ⟨_, rfl⟩
          rw [hq] at h
          cases q with
          | error e => simp [pre] at h
          | ok m' =>
            simp only [pre, Except.ok.injEq, List.nil_append] at h
            subst h
            have := tkG_len f _ _ _ _ (by omega) hq
            simp; omega
theorem tokens_len {l : List UInt8} {m : List Tok} (h : tokens one l = .ok m) : m.length ≤ 61 := by
  unfold tokens at h
  by_cases hl : 200 < l.length
  · rw [if_pos hl] at h; cases h
  · rw [if_neg hl] at h
    exact tkG_len _ _ _ _ _ (by omega) h
theorem tokens_err {l : List UInt8} {q e : Nat} (h : tokens one l = .error (q, e)) : e ≠ 0 ∧ q ≤ l.length := by
  unfold tokens at h
  by_cases hl : 200 < l.length
  · rw [if_pos hl] at h; cases h; simp
  · rw [if_neg hl] at h
    have := tkG_err _ _ _ _ _ _ (by omega) h
    omega
end Go.Lex

namespace Go.Proofs.Ytolahnnkdpbdfaa
open Go.RowKit Go.Sl
theorem eTk_tkOf (t : Lex.Tok) : eTk (Lex.tkOf t) = eTok t := rfl
end Go.Proofs.Ytolahnnkdpbdfaa
