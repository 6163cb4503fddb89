/-
  Walks of layer 27: flags, braces, words. No condition but that a text is short.
-/
import Derived.Test.YtolahnnkdpbdfaaL2
namespace Go.Proofs.Ytolahnnkdpbdfaa
open Go.RowKit Go.Sl

theorem hasprefix2 (l : List UInt8) (t : Bool) (ht : (l.take 2 == [45, 45]) = t) (w : World) (hl : l.length ≤ 9223372036854775807) : Calls Try.prog 102 #[.string (bstr l), .string ⟨#[45, 45]⟩] w fun e w' => e = .returned (.bool t) ∧ w = w' := by
  by_cases h2 : 2 ≤ l.length
  · go_enter Try.func102, Try.ntmps102
    go_wp2_with fail
    go_ret
    exact ⟨rfl, rfl⟩
  · have HF : Hid (t = false) := Lib.hid (by
      rw [← ht, beq_eq_false_iff_ne]
      intro h; have := congrArg List.length h; simp at this; omega)
    clear ht
    go_enter Try.func102, Try.ntmps102
    go_wp2_with fail
    go_ret
    exact ⟨ret_bool HF.out.symm, rfl⟩

theorem cutin_yes (l : List UInt8) (ht : (l.take 2 == [45, 45]) = true) (w : World) (hl : l.length ≤ 9223372036854775807) : Calls Try.prog 96 #[.string (bstr l), .string ⟨#[45, 45]⟩] w fun e w' => e = .returned (.tuple #[.string (bstr (l.drop 2)), .bool true]) ∧ w = w' := by
  have h2 : 2 ≤ l.length := by
    have := congrArg List.length (beq_iff_eq.1 ht); simp at this; omega
  have HP := Lib.hid (fun u => hasprefix2 l true ht u hl)
  clear ht
  go_enter Try.func96, Try.ntmps96
  go_wp2_with (go_at_call 102; go_must (refine (HP.out _).mono ?_; rintro e w' ⟨rfl, rfl⟩))
  go_ret2
  exact ⟨rfl, rfl⟩
theorem cutin_no (l : List UInt8) (ht : (l.take 2 == [45, 45]) = false) (w : World) (hl : l.length ≤ 9223372036854775807) : Calls Try.prog 96 #[.string (bstr l), .string ⟨#[45, 45]⟩] w fun e w' => e = .returned (.tuple #[.string (bstr l), .bool false]) ∧ w = w' := by
  have HP := Lib.hid (fun u => hasprefix2 l false ht u hl)
  clear ht
  go_enter Try.func96, Try.ntmps96
  go_wp2_with (go_at_call 102; go_must (refine (HP.out _).mono ?_; rintro e w' ⟨rfl, rfl⟩))
  go_ret2
  exact ⟨rfl, rfl⟩
theorem cut2_yes (l : List UInt8) (ht : (l.take 2 == [45, 45]) = true) (w : World) (hl : l.length ≤ 9223372036854775807) : Calls Try.prog 84 #[.string (bstr l), .string ⟨#[45, 45]⟩] w fun e w' => e = .returned (.tuple #[.string (bstr (l.drop 2)), .bool true]) ∧ w = w' := by
  have HP := Lib.hid (fun u => cutin_yes l ht u hl)
  clear ht
  go_enter Try.func84, Try.ntmps84
  go_wp2_with (go_at_call 96; go_must (refine (HP.out _).mono ?_; rintro e w' ⟨rfl, rfl⟩))
  go_ret2
  exact ⟨rfl, rfl⟩
theorem cut2_no (l : List UInt8) (ht : (l.take 2 == [45, 45]) = false) (w : World) (hl : l.length ≤ 9223372036854775807) : Calls Try.prog 84 #[.string (bstr l), .string ⟨#[45, 45]⟩] w fun e w' => e = .returned (.tuple #[.string (bstr l), .bool false]) ∧ w = w' := by
  have HP := Lib.hid (fun u => cutin_no l ht u hl)
  clear ht
  go_enter Try.func84, Try.ntmps84
  go_wp2_with (go_at_call 96; go_must (refine (HP.out _).mono ?_; rintro e w' ⟨rfl, rfl⟩))
  go_ret2
  exact ⟨rfl, rfl⟩

set_option maxHeartbeats 1000000 in
theorem brace_any (l : List UInt8) (n : Nat) (hn : Lex.brace l = n) (w : World) (h1 : 1 ≤ l.length) (hl : l.length ≤ 100000) : Calls Try.prog 63 #[.string (bstr l)] w fun e w' => e = .returned (.int .i64 (n : Nat)) ∧ w = w' := by
  obtain ⟨k, hk⟩ : ∃ k, Lex.whileN Lex.letter (l.drop 1) = k := ⟨_, rfl⟩
  have hkl := Lex.whileN_le Lex.letter (l.drop 1)
  rw [hk, List.length_drop] at hkl
  have HW := Lib.hid (fun u => while_letter l.tail k (by rw [← List.drop_one]; exact hk) u (by simp; omega))
  have HB : Hid (n = if l[k + 1]? = some 125 then k + 2 else 0) := Lib.hid (by rw [← hn, Lex.brace, hk])
  clear hn hk
  by_cases h2 : k + 1 < l.length
  · obtain ⟨c, hc⟩ : ∃ c, l[k + 1] = c := ⟨_, rfl⟩
    have HB2 : Hid (n = if c = 125 then k + 2 else 0) := Lib.hid (by rw [HB.out, List.getElem?_eq_getElem h2, hc]; simp)
    by_cases h3 : c = 125
    · have hd : ((c.toNat : Int) == 125) = true := by subst h3; rfl
      have H3 := Lib.hid h3
      clear h3
      go_enter Try.func63, Try.ntmps63
      go_wp2_with (go_at_call 35; go_must (refine (HW.out _).mono ?_; rintro e w' ⟨rfl, rfl⟩))
      go_ret
      exact ⟨ret_int (by rw [HB2.out, if_pos H3.out]; rfl), rfl⟩
    · have hd : ((c.toNat : Int) == 125) = false := by
        rw [beq_eq_false_iff_ne]; intro e; apply h3; apply UInt8.toNat_inj.1; show c.toNat = 125; omega
      have H3 := Lib.hid h3
      clear h3
      go_enter Try.func63, Try.ntmps63
      go_wp2_with (go_at_call 35; go_must (refine (HW.out _).mono ?_; rintro e w' ⟨rfl, rfl⟩))
      go_ret
      exact ⟨ret_int (by rw [HB2.out, if_neg H3.out]; rfl), rfl⟩
  · have HB2 : Hid (n = 0) := Lib.hid (by rw [HB.out, List.getElem?_eq_none (by omega), if_neg (by simp)])
    go_enter Try.func63, Try.ntmps63
    go_wp2_with (go_at_call 35; go_must (refine (HW.out _).mono ?_; rintro e w' ⟨rfl, rfl⟩))
    go_ret
    exact ⟨ret_int (by rw [HB2.out]; rfl), rfl⟩
end Go.Proofs.Ytolahnnkdpbdfaa
