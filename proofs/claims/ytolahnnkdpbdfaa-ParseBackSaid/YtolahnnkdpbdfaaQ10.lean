/-
  Layer 27: numbers of up to four digits; both Counts. No condition but that a text is short.
-/
import Derived.Test.YtolahnnkdpbdfaaQ9

namespace Go.Lex
def dec (l : List UInt8) : Nat := l.foldl (fun n c => n * 10 + (c.toNat - 48)) 0
theorem dec_step {l : List UInt8} {k : Nat} {c : UInt8} (hk : k < l.length) (hc : l[k] = c) : dec (l.take (k + 1)) = dec (l.take k) * 10 + (c.toNat - 48) := by
  rw [List.take_succ_eq_append_getElem hk, dec, List.foldl_append, hc]; rfl
theorem dec_bound (l : List UInt8) (hd : l.all digit = true) : ∀ k, k ≤ l.length → dec (l.take k) + 1 ≤ 10 ^ k
  | 0, _ => by simp [dec]
  | k + 1, h => by
    have ih := dec_bound l hd k (by omega)
    have h1 : digit l[k] = true := List.all_eq_true.1 hd _ (List.getElem_mem _)
    rw [dec_step (by omega) rfl]
    have h2 : 48 ≤ l[k].toNat ∧ l[k].toNat ≤ 57 := by unfold digit at h1; simpa using h1
    rw [Nat.pow_succ]; omega
theorem dec_small {l : List UInt8} (hd : l.all digit = true) {k : Nat} (hk : k ≤ l.length) (h4 : k ≤ 4) : dec (l.take k) ≤ 9999 := by
  have := dec_bound l hd k hk
  have h : 10 ^ k ≤ 10 ^ 4 := Nat.pow_le_pow_right (by omega) h4
  omega
def count (l : List UInt8) : Nat × Bool := if l ≠ [] ∧ l.length ≤ 4 ∧ l.all digit = true then (dec l, true) else (0, false)
theorem all_while (l : List UInt8) : l.all digit = true ↔ l.length ≤ whileN digit l := by
  have := all_iff (p := digit) (Nat.le_refl l.length)
  rwa [List.take_of_length_le (Nat.le_refl _)] at this
theorem digit_at {l : List UInt8} (hd : l.all digit = true) {k : Nat} {c : UInt8} (hk : k < l.length) (hc : l[k] = c) : 48 ≤ c.toNat ∧ c.toNat ≤ 57 := by
  have h1 : digit l[k] = true := List.all_eq_true.1 hd _ (List.getElem_mem _)
  rw [hc] at h1; unfold digit at h1; simpa using h1
end Go.Lex

namespace Go.Proofs.Ytolahnnkdpbdfaa
open Go.RowKit Go.Sl

theorem ret_count {a a' : Int} {b b' : Bool} (h1 : a = a') (h2 : b = b') : Ending.returned (.tuple #[.int .i64 a, .bool b]) = .returned (.tuple #[.int .i64 a', .bool b']) := by rw [h1, h2]

set_option maxHeartbeats 1000000 in
theorem count_any (l : List UInt8) (n : Nat) (t : Bool) (hn : Lex.count l = (n, t)) (w : World) (hl : l.length ≤ 100000) : Calls Try.prog 16 #[.string (bstr l)] w fun e w' => e = .returned (.tuple #[.int .i64 (n : Nat), .bool t]) ∧ w = w' := by
  by_cases h0 : l = []
  · subst h0
    have HZ : Hid (n = 0 ∧ t = false) := Lib.hid (by rw [Lex.count, if_neg (by simp)] at hn; cases hn; exact ⟨rfl, rfl⟩)
    clear hn
    go_enter Try.func16, Try.ntmps16
    go_wp2_with fail
    go_ret2
    exact ⟨ret_count (by rw [HZ.out.1]; rfl) HZ.out.2.symm, rfl⟩
  · have q0 : (l == []) = false := beq_eq_false_iff_ne.2 h0
    have q0' : l.isEmpty = false := by cases l <;> simp_all
    have h1 : 1 ≤ l.length := by cases l <;> simp_all
    by_cases h4 : 4 < l.length
    · have HZ : Hid (n = 0 ∧ t = false) := Lib.hid (by rw [Lex.count, if_neg (by omega)] at hn; cases hn; exact ⟨rfl, rfl⟩)
      have g4 : decide ((4 : Int) < l.length) = true := decide_eq_true (by omega)
      clear hn h0
      go_enter Try.func16, Try.ntmps16
      go_wp2_with fail
      go_ret2
      exact ⟨ret_count (by rw [HZ.out.1]; rfl) HZ.out.2.symm, rfl⟩
    · have g4 : decide ((4 : Int) < l.length) = false := decide_eq_false (by omega)
      obtain ⟨m, hm⟩ : ∃ m, Lex.whileN Lex.digit l = m := ⟨_, rfl⟩
      have HD := Lib.hid (fun u => while_digit l m hm u (by omega))
      by_cases hal : l.all Lex.digit = true
      · have HC : Hid (n = Lex.dec l ∧ t = true) := Lib.hid (by rw [Lex.count, if_pos ⟨h0, by omega, hal⟩] at hn; cases hn; exact ⟨rfl, rfl⟩)
        have HA := Lib.hid hal
        have hml : m = l.length := by rw [← hm]; exact Nat.le_antisymm (Lex.whileN_le _ _) ((Lex.all_while l).1 hal)
        subst hml
        clear hn h0 hal hm
        go_enter Try.func16, Try.ntmps16
        go_wp2_with (go_at_call 35; go_must (refine (HD.out _).mono ?_; rintro e w' ⟨rfl, rfl⟩))
        go_loop [4, 22] (fun a b => ∃ (k v : Nat), k ≤ l.length ∧ b = .int .i64 k ∧ a = .int .i64 v ∧ Hid (v = Lex.dec (l.take k))) (fun _ b => l.length - (intOf b).toNat)
        case atStart => exact ⟨0, 0, by omega, rfl, rfl, Lib.hid rfl⟩
        case round =>
          obtain ⟨k, v, hk, rfl, rfl, HV⟩ := hrel
          by_cases hlt : k < l.length
          · obtain ⟨c, hc⟩ : ∃ c, l[k] = c := ⟨_, rfl⟩
            obtain ⟨c1, c2⟩ := Lex.digit_at HA.out hlt hc
            have hv : v ≤ 9999 := by rw [HV.out]; exact Lex.dec_small HA.out hk (by omega)
            have HZ : Hid (v * 10 + (c.toNat - 48) = Lex.dec (l.take (k + 1))) := Lib.hid (by rw [Lex.dec_step hlt hc, HV.out])
            go_wp2_with fail
            go_round
            case rel => exact ⟨k + 1, v * 10 + (c.toNat - 48), by omega, by go_num, by congr 1; omega, HZ⟩
            case measure => simp [intOf] <;> omega
          · have HZ : Hid (n = v ∧ t = true) := Lib.hid ⟨by rw [HC.out.1, HV.out, List.take_of_length_le (by omega)], HC.out.2⟩
            go_wp2_with fail
            go_ret2
            exact ⟨ret_count (by rw [HZ.out.1]) HZ.out.2.symm, rfl⟩
      · have HZ : Hid (n = 0 ∧ t = false) := Lib.hid (by rw [Lex.count, if_neg (fun h => hal h.2.2)] at hn; cases hn; exact ⟨rfl, rfl⟩)
        have hml : m < l.length := by
          rw [← hm]
          apply Nat.lt_of_not_le
          intro h; exact hal ((Lex.all_while l).2 h)
        clear hn h0 hal hm
        go_enter Try.func16, Try.ntmps16
        go_wp2_with (go_at_call 35; go_must (refine (HD.out _).mono ?_; rintro e w' ⟨rfl, rfl⟩))
        go_ret2
        exact ⟨ret_count (by rw [HZ.out.1]; rfl) HZ.out.2.symm, rfl⟩

set_option maxHeartbeats 1000000 in
theorem rcount_any (l : List UInt8) (n : Nat) (t : Bool) (hn : Lex.count l = (n, t)) (w : World) (hl : l.length ≤ 100000) : Calls Try.prog 17 #[.string (bstr l)] w fun e w' => e = .returned (.tuple #[.int .i64 (n : Nat), .bool t]) ∧ w = w' := by
  by_cases h0 : l = []
  · subst h0
    have HZ : Hid (n = 0 ∧ t = false) := Lib.hid (by rw [Lex.count, if_neg (by simp)] at hn; cases hn; exact ⟨rfl, rfl⟩)
    clear hn
    go_enter Try.func17, Try.ntmps17
    go_wp2_with fail
    go_ret2
    exact ⟨ret_count (by rw [HZ.out.1]; rfl) HZ.out.2.symm, rfl⟩
  · have q0 : (l == []) = false := beq_eq_false_iff_ne.2 h0
    have q0' : l.isEmpty = false := by cases l <;> simp_all
    have h1 : 1 ≤ l.length := by cases l <;> simp_all
    by_cases h4 : 4 < l.length
    · have HZ : Hid (n = 0 ∧ t = false) := Lib.hid (by rw [Lex.count, if_neg (by omega)] at hn; cases hn; exact ⟨rfl, rfl⟩)
      have g4 : decide ((4 : Int) < l.length) = true := decide_eq_true (by omega)
      clear hn h0
      go_enter Try.func17, Try.ntmps17
      go_wp2_with fail
      go_ret2
      exact ⟨ret_count (by rw [HZ.out.1]; rfl) HZ.out.2.symm, rfl⟩
    · have g4 : decide ((4 : Int) < l.length) = false := decide_eq_false (by omega)
      obtain ⟨m, hm⟩ : ∃ m, l.all Lex.digit = m := ⟨_, rfl⟩
      have HD := Lib.hid (fun u => rdigits_any l m hm u (by omega))
      by_cases hal : l.all Lex.digit = true
      · have HC : Hid (n = Lex.dec l ∧ t = true) := Lib.hid (by rw [Lex.count, if_pos ⟨h0, by omega, hal⟩] at hn; cases hn; exact ⟨rfl, rfl⟩)
        have HA := Lib.hid hal
        have hml : m = true := by rw [← hm]; exact hal
        subst hml
        clear hn h0 hal hm
        go_enter Try.func17, Try.ntmps17
        go_wp2_with (go_at_call 37; go_must (refine (HD.out _).mono ?_; rintro e w' ⟨rfl, rfl⟩))
        go_loop [4, 5] (fun a b => ∃ (k v : Nat), k ≤ l.length ∧ b = .int .i64 k ∧ a = .int .i64 v ∧ Hid (v = Lex.dec (l.take k))) (fun _ b => l.length - (intOf b).toNat)
        case atStart => exact ⟨0, 0, by omega, rfl, rfl, Lib.hid rfl⟩
        case round =>
          obtain ⟨k, v, hk, rfl, rfl, HV⟩ := hrel
          by_cases hlt : k < l.length
          · obtain ⟨c, hc⟩ : ∃ c, l[k] = c := ⟨_, rfl⟩
            obtain ⟨c1, c2⟩ := Lex.digit_at HA.out hlt hc
            have hv : v ≤ 9999 := by rw [HV.out]; exact Lex.dec_small HA.out hk (by omega)
            have HZ : Hid (v * 10 + (c.toNat - 48) = Lex.dec (l.take (k + 1))) := Lib.hid (by rw [Lex.dec_step hlt hc, HV.out])
            go_wp2_with fail
            go_round
            case rel => exact ⟨k + 1, v * 10 + (c.toNat - 48), by omega, by go_num, by congr 1; omega, HZ⟩
            case measure => simp [intOf] <;> omega
          · have HZ : Hid (n = v ∧ t = true) := Lib.hid ⟨by rw [HC.out.1, HV.out, List.take_of_length_le (by omega)], HC.out.2⟩
            go_wp2_with fail
            go_ret2
            exact ⟨ret_count (by rw [HZ.out.1]) HZ.out.2.symm, rfl⟩
      · have HZ : Hid (n = 0 ∧ t = false) := Lib.hid (by rw [Lex.count, if_neg (fun h => hal h.2.2)] at hn; cases hn; exact ⟨rfl, rfl⟩)
        have hml : m = false := by rw [← hm]; simpa using hal
        subst hml
        clear hn h0 hal hm
        go_enter Try.func17, Try.ntmps17
        go_wp2_with (go_at_call 37; go_must (refine (HD.out _).mono ?_; rintro e w' ⟨rfl, rfl⟩))
        go_ret2
        exact ⟨ret_count (by rw [HZ.out.1]; rfl) HZ.out.2.symm, rfl⟩
end Go.Proofs.Ytolahnnkdpbdfaa
