/-
  Layer 27: is a token right? What both tell is the same; the program's walk. No condition but that a text is short.
-/
import Derived.Test.YtolahnnkdpbdfaaQ10

namespace Go.Lex
theorem kind_dots2 (r : List UInt8) (h0 : r ≠ []) (h1 : r ≠ [46]) : kind (46 :: 46 :: r) = 0 := by
  have hr : rword (46 :: 46 :: r) = false := by simp [rword, rwG, nextDot, isDot]
  have hf : rflag (46 :: 46 :: r) = false := flag_no (by decide)
  have hb : rbrace (46 :: 46 :: r) = false := brace_no (by decide)
  have hg : (46 :: 46 :: r).all isGap = false := gap_no (by decide)
  unfold kind
  rw [hr, hf, hb, hg]
  simp [h0, h1]
/-- what is a token is what it begins with -/
theorem first_of_kind {l : List UInt8} (h : l ≠ []) (hk : kind l ≠ 0) : first l = (kind l, l.length) := by
  unfold first
  by_cases h3 : l.take 3 = [46, 46, 46]
  · rw [if_pos h3]
    match l, h3 with
    | a :: b :: c :: r, h3 =>
      simp only [List.take_succ_cons, List.take_zero, List.cons.injEq, and_true] at h3
      obtain ⟨rfl, rfl, rfl⟩ := h3
      by_cases hr : r = []
      · subst hr; decide
      · exact absurd (kind_dots2 (46 :: r) (by simp) (by simpa using hr)) hk
    | [_, _], h3 => simp at h3
    | [_], h3 => simp at h3
    | [], h3 => simp at h3
  · rw [if_neg h3]
    by_cases h2 : l.take 2 = [46, 46]
    · rw [if_pos h2]
      match l, h2 with
      | a :: b :: r, h2 =>
        simp only [List.take_succ_cons, List.take_zero, List.cons.injEq, and_true] at h2
        obtain ⟨rfl, rfl⟩ := h2
        by_cases hr : r = []
        · subst hr; decide
        · by_cases hr1 : r = [46]
          · subst hr1; exact absurd rfl h3
          · exact absurd (kind_dots2 r hr hr1) hk
      | [_], h2 => simp at h2
      | [], h2 => simp at h2
    · rw [if_neg h2]
      obtain ⟨p, hp⟩ : ∃ p, l.length = p + 1 := ⟨l.length - 1, by have := List.length_pos_iff.2 h; omega⟩
      rw [hp]
      have ht : l.take (p + 1) = l := List.take_of_length_le (by omega)
      rw [down_at, ht]
      unfold skip
      rw [ht, decide_eq_false]
      rintro (h | ⟨_, _, h⟩)
      · exact hk h
      · rw [List.getElem?_eq_none (by omega)] at h; cases h
theorem kind_of_first {l : List UInt8} (h : l ≠ []) (hn : (first l).2 = l.length) : kind l ≠ 0 := by
  intro hk
  unfold first at hn
  by_cases h3 : l.take 3 = [46, 46, 46]
  · rw [if_pos h3] at hn
    rw [List.take_of_length_le (by rw [← hn]; simp)] at h3
    subst h3; exact absurd hk (by decide)
  · rw [if_neg h3] at hn
    by_cases h2 : l.take 2 = [46, 46]
    · rw [if_pos h2] at hn
      rw [List.take_of_length_le (by rw [← hn]; simp)] at h2
      subst h2; exact absurd hk (by decide)
    · rw [if_neg h2] at hn
      obtain ⟨p, hp⟩ : ∃ p, l.length = p + 1 := ⟨l.length - 1, by have := List.length_pos_iff.2 h; omega⟩
      rw [hp, down, if_pos (skip_of (by rw [List.take_of_length_le (by omega)]; exact hk))] at hn
      rcases down_ok l p with ⟨_, h⟩ | ⟨_, _, h⟩ <;> omega
def right (K : Int) (l : List UInt8) (p : Int) : Bool := decide (0 ≤ p ∧ (if l = [] then K = 9 else ((one l).2 = l.length ∧ ((one l).1 : Int) = K)))
def rright (K : Int) (l : List UInt8) (p : Int) : Bool := decide (0 ≤ p ∧ K = (kind l : Nat) ∧ 0 < K)
theorem right_same (K : Int) (l : List UInt8) (p : Int) : right K l p = rright K l p := by
  unfold right rright
  rw [decide_eq_decide]
  apply and_congr_right
  intro _
  by_cases hl : l = []
  · subst hl
    rw [if_pos rfl, show kind [] = 9 from rfl]
    omega
  · rw [if_neg hl]
    have hlen := List.length_pos_iff.2 hl
    rcases one_first l hl with ⟨h1, h2⟩ | h
    · constructor
      · rintro ⟨h, _⟩; omega
      · rintro ⟨h3, h4⟩
        have := first_of_kind hl (by omega)
        rw [this] at h2; simp at h2; exact absurd h2 hl
    · rw [h]
      constructor
      · rintro ⟨h3, h4⟩
        have hk := kind_of_first hl h3
        rw [first_of_kind hl hk] at h4
        simp only at h4
        omega
      · rintro ⟨h3, h4⟩
        have hk : kind l ≠ 0 := by omega
        rw [first_of_kind hl hk]
        exact ⟨rfl, h3.symm⟩
end Go.Lex

namespace Go.Proofs.Ytolahnnkdpbdfaa
open Go.RowKit Go.Sl

set_option maxHeartbeats 1000000 in
theorem right_any (K : Int) (l : List UInt8) (p : Int) (t : Bool) (ht : Lex.right K l p = t) (w : World) (hl : l.length ≤ 100000) : Calls Try.prog 18 #[.agg #[.int .i64 K, .string (bstr l), .int .i64 p]] w fun e w' => e = .returned (.bool t) ∧ Below w.heap.size w w' := by
  by_cases hp : p < 0
  · have HZ : Hid (t = false) := Lib.hid (by rw [← ht, Lex.right, decide_eq_false (by omega)])
    have dp := decide_eq_true hp
    clear ht
    go_enter Try.func18, Try.ntmps18
    go_wp2_with fail
    go_ret
    exact ⟨ret_bool HZ.out.symm, (Below.refl _ _).alloc (Nat.le_refl _) _⟩
  · have dp := decide_eq_false hp
    by_cases h0 : l = []
    · subst h0
      have HZ : Hid (t = (K == 9)) := Lib.hid (by rw [← ht, Lex.right, Bool.eq_iff_iff]; simp; omega)
      clear ht
      go_enter Try.func18, Try.ntmps18
      go_wp2_with fail
      go_ret
      exact ⟨ret_bool HZ.out.symm, (Below.refl _ _).alloc (Nat.le_refl _) _⟩
    · have q0 : (l == []) = false := beq_eq_false_iff_ne.2 h0
      have q0' : l.isEmpty = false := by cases l <;> simp_all
      have h1 : 1 ≤ l.length := by cases l <;> simp_all
      obtain ⟨⟨kd, n⟩, hon⟩ : ∃ x, Lex.one l = x := ⟨_, rfl⟩
      have HC := Lib.hid (fun u => one_any l kd n hon u h1 hl)
      have HZ : Hid (t = decide (n = l.length ∧ (kd : Int) = K)) := Lib.hid (by rw [← ht, Lex.right, decide_eq_decide, if_neg h0, hon]; simp only [and_iff_right_iff_imp]; omega)
      clear ht hon h0
      by_cases hn : n = l.length
      · have dn := int_is hn
        by_cases hk : (kd : Int) = K
        · have dk : ((kd : Int) == K) = true := beq_iff_eq.2 hk
          have HT : Hid (t = true) := Lib.hid (by rw [HZ.out, decide_eq_true ⟨hn, hk⟩])
          clear hn hk
          go_enter Try.func18, Try.ntmps18
          go_wp2_with (go_at_call 33; go_must (refine (HC.out _).mono ?_; rintro e w' ⟨rfl, rfl⟩))
          go_ret
          exact ⟨ret_bool HT.out.symm, (Below.refl _ _).alloc (Nat.le_refl _) _⟩
        · have dk : ((kd : Int) == K) = false := beq_eq_false_iff_ne.2 hk
          have HT : Hid (t = false) := Lib.hid (by rw [HZ.out, decide_eq_false (fun h => hk h.2)])
          clear hn hk
          go_enter Try.func18, Try.ntmps18
          go_wp2_with (go_at_call 33; go_must (refine (HC.out _).mono ?_; rintro e w' ⟨rfl, rfl⟩))
          go_ret
          exact ⟨ret_bool HT.out.symm, (Below.refl _ _).alloc (Nat.le_refl _) _⟩
      · have dn := int_not hn
        have HT : Hid (t = false) := Lib.hid (by rw [HZ.out, decide_eq_false (fun h => hn h.1)])
        clear hn
        go_enter Try.func18, Try.ntmps18
        go_wp2_with (go_at_call 33; go_must (refine (HC.out _).mono ?_; rintro e w' ⟨rfl, rfl⟩))
        go_ret
        exact ⟨ret_bool HT.out.symm, (Below.refl _ _).alloc (Nat.le_refl _) _⟩

theorem rkind_nil (w : World) : Calls Try.prog 38 #[.string (bstr [])] w fun e w' => e = .returned (.int .i64 (9 : Nat)) ∧ w = w' := by
  go_enter Try.func38, Try.ntmps38
  go_wp2_with fail
  go_ret
  exact ⟨rfl, rfl⟩
theorem rkind_all (l : List UInt8) (m : Nat) (hm : Lex.kind l = m) (w : World) (hl : l.length ≤ 100000) : Calls Try.prog 38 #[.string (bstr l)] w fun e w' => e = .returned (.int .i64 (m : Nat)) ∧ w = w' := by
  by_cases h0 : l = []
  · subst h0
    obtain rfl : m = 9 := by rw [← hm]; rfl
    exact rkind_nil w
  · exact rkind_any l m hm w (List.length_pos_iff.2 h0) hl
theorem rkind_quiet (l : List UInt8) (m : Nat) (hm : Lex.kind l = m) (w : World) (hl : l.length ≤ 100000) : Calls Try.prog 38 #[.string (bstr l)] w fun e w' => e = .returned (.int .i64 (m : Nat)) ∧ ∃ n, w' = w.drewN n :=
  (rkind_all l m hm w hl).mono fun _ _ ⟨h1, h2⟩ => ⟨h1, 0, h2.symm⟩

set_option maxHeartbeats 1000000 in
theorem rright_any (K : Int) (l : List UInt8) (p : Int) (t : Bool) (ht : Lex.rright K l p = t) (w : World) (hl : l.length ≤ 100000) : Calls Try.prog 19 #[.agg #[.int .i64 K, .string (bstr l), .int .i64 p]] w fun e w' => e = .returned (.bool t) ∧ Below w.heap.size w w' := by
  obtain ⟨m, hm⟩ : ∃ m, Lex.kind l = m := ⟨_, rfl⟩
  have HK := Lib.hid (fun u => rkind_quiet l m hm u hl)
  have HZ : Hid (t = decide (0 ≤ p ∧ K = (m : Nat) ∧ 0 < K)) := Lib.hid (by rw [← ht, ← hm, Lex.rright])
  clear ht hm
  by_cases hp : 0 ≤ p
  · have dp := decide_eq_true hp
    by_cases hk : K = m
    · have dk : (K == (m : Int)) = true := beq_iff_eq.2 hk
      by_cases h0 : 0 < K
      · have d0 := decide_eq_true h0
        have HT : Hid (t = true) := Lib.hid (by rw [HZ.out, decide_eq_true ⟨hp, hk, h0⟩])
        clear hp hk h0
        go_enter Try.func19, Try.ntmps19
        go_wp2_with fail
        go_quiet ((go_at_call 38; exact Calls.quiet_of (HK.out _)))
        go_wp2_with fail
        go_ret
        exact ⟨ret_bool HT.out.symm, below_drewN ((Below.refl _ _).alloc (Nat.le_refl _) _) _⟩
      · have d0 := decide_eq_false h0
        have HT : Hid (t = false) := Lib.hid (by rw [HZ.out, decide_eq_false (fun h => h0 h.2.2)])
        clear hp hk h0
        go_enter Try.func19, Try.ntmps19
        go_wp2_with fail
        go_quiet ((go_at_call 38; exact Calls.quiet_of (HK.out _)))
        go_wp2_with fail
        go_ret
        exact ⟨ret_bool HT.out.symm, below_drewN ((Below.refl _ _).alloc (Nat.le_refl _) _) _⟩
    · have dk : (K == (m : Int)) = false := beq_eq_false_iff_ne.2 hk
      have HT : Hid (t = false) := Lib.hid (by rw [HZ.out, decide_eq_false (fun h => hk h.2.1)])
      clear hp hk
      go_enter Try.func19, Try.ntmps19
      go_wp2_with fail
      go_quiet ((go_at_call 38; exact Calls.quiet_of (HK.out _)))
      go_wp2_with fail
      go_ret
      exact ⟨ret_bool HT.out.symm, below_drewN ((Below.refl _ _).alloc (Nat.le_refl _) _) _⟩
  · have dp := decide_eq_false hp
    have HT : Hid (t = false) := Lib.hid (by rw [HZ.out, decide_eq_false (fun h => hp h.1)])
    clear hp
    go_enter Try.func19, Try.ntmps19
    go_wp2_with fail
    go_quiet (fail)
    go_wp2_with fail
    go_ret
    exact ⟨ret_bool HT.out.symm, below_drewN ((Below.refl _ _).alloc (Nat.le_refl _) _) _⟩
end Go.Proofs.Ytolahnnkdpbdfaa
