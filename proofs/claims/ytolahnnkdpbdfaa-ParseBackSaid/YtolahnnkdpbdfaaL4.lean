/-
  Walks of layer 27: flags, words. No condition but that a text is short.
-/
import Derived.Test.YtolahnnkdpbdfaaL3
namespace Go.Proofs.Ytolahnnkdpbdfaa
open Go.RowKit Go.Sl

set_option maxHeartbeats 1000000 in
theorem flag_any (l : List UInt8) (n : Nat) (hn : Lex.flag l = n) (w : World) (hl : l.length ≤ 100000) : Calls Try.prog 64 #[.string (bstr l)] w fun e w' => e = .returned (.int .i64 (n : Nat)) ∧ w = w' := by
  by_cases ht : l.take 2 = [45, 45]
  · have HC := Lib.hid (fun u => cut2_yes l (by rw [ht]; rfl) u (by omega))
    obtain ⟨r, hr⟩ : ∃ r, l.drop 2 = r := ⟨_, rfl⟩
    have hrl : r.length ≤ 100000 := by rw [← hr]; simp; omega
    obtain ⟨k, hk⟩ : ∃ k, Lex.whileN Lex.letter r = k := ⟨_, rfl⟩
    have hkl := Lex.whileN_le Lex.letter r
    rw [hk] at hkl
    have HW := Lib.hid (fun u => while_letter r k hk u (by omega))
    have HN : Hid (n = if k = 0 then 0 else if r[k]? = some 61 ∧ 0 < Lex.whileN Lex.digit (r.drop (k + 1)) then 2 + (k + (1 + Lex.whileN Lex.digit (r.drop (k + 1)))) else 2 + k) := Lib.hid (by
      rw [← hn, Lex.flag, if_pos ht, hr]; simp only [hk])
    rw [hr] at HC
    clear hn hk ht hr
    by_cases h0 : k = 0
    · have H0 : Hid (n = 0) := Lib.hid (by rw [HN.out, if_pos h0])
      have hk0 : ((k : Int) == 0) = true := by simp [h0]
      have hk0' : (k == 0) = true := by simp [h0]
      clear h0
      go_enter Try.func64, Try.ntmps64
      go_wp2_with (first | (go_at_call 84; go_must (refine (HC.out _).mono ?_; rintro e w' ⟨rfl, rfl⟩)) | (go_at_call 35; go_must (refine (HW.out _).mono ?_; rintro e w' ⟨rfl, rfl⟩)))
      go_ret
      exact ⟨ret_int (by rw [H0.out]; rfl), rfl⟩
    · have hk0 : ((k : Int) == 0) = false := by simp [h0]
      have hk0' : (k == 0) = false := by simp [h0]
      by_cases h1 : k < r.length
      · obtain ⟨c, hc⟩ : ∃ c, r[k] = c := ⟨_, rfl⟩
        by_cases h2 : c = 61
        · have hd : ((c.toNat : Int) == 61) = true := by subst h2; rfl
          obtain ⟨d, hd2⟩ : ∃ d, Lex.whileN Lex.digit (r.drop (k + 1)) = d := ⟨_, rfl⟩
          have hdl := Lex.whileN_le Lex.digit (r.drop (k + 1))
          rw [hd2, List.length_drop] at hdl
          have HD := Lib.hid (fun u => while_digit (r.drop (k + 1)) d hd2 u (by simp; omega))
          have HN2 : Hid (n = if 0 < d then 2 + (k + (1 + d)) else 2 + k) := Lib.hid (by
            rw [HN.out, if_neg h0, List.getElem?_eq_getElem h1, hc, h2, hd2]; simp)
          clear hd2 h2 h0
          by_cases h3 : 0 < d
          · have H3 := Lib.hid h3
            go_enter Try.func64, Try.ntmps64
            go_wp2_with (first | (go_at_call 84; go_must (refine (HC.out _).mono ?_; rintro e w' ⟨rfl, rfl⟩)) | (go_at_call 35; ((with_reducible refine (HW.out _).mono ?_); rintro e w' ⟨rfl, rfl⟩)) | (go_at_call 35; go_must (refine (HD.out _).mono ?_; rintro e w' ⟨rfl, rfl⟩)))
            go_ret
            exact ⟨ret_int (by rw [HN2.out, if_pos H3.out]; omega), rfl⟩
          · have H3 := Lib.hid h3
            have hd0 : d = 0 := by omega
            have hdd : decide (0 < d) = false := by simpa using h3
            clear hd0
            go_enter Try.func64, Try.ntmps64
            go_wp2_with (first | (go_at_call 84; go_must (refine (HC.out _).mono ?_; rintro e w' ⟨rfl, rfl⟩)) | (go_at_call 35; ((with_reducible refine (HW.out _).mono ?_); rintro e w' ⟨rfl, rfl⟩)) | (go_at_call 35; go_must (refine (HD.out _).mono ?_; rintro e w' ⟨rfl, rfl⟩)))
            go_ret
            exact ⟨ret_int (by rw [HN2.out, if_neg H3.out]; omega), rfl⟩
        · have hd : ((c.toNat : Int) == 61) = false := by
            rw [beq_eq_false_iff_ne]; intro e; apply h2; apply UInt8.toNat_inj.1; show c.toNat = 61; omega
          have HN2 : Hid (n = 2 + k) := Lib.hid (by rw [HN.out, if_neg h0, if_neg]; rw [List.getElem?_eq_getElem h1, hc]; simp [h2])
          clear h0 h2
          go_enter Try.func64, Try.ntmps64
          go_wp2_with (first | (go_at_call 84; go_must (refine (HC.out _).mono ?_; rintro e w' ⟨rfl, rfl⟩)) | (go_at_call 35; go_must (refine (HW.out _).mono ?_; rintro e w' ⟨rfl, rfl⟩)))
          go_ret
          exact ⟨ret_int (by rw [HN2.out]; omega), rfl⟩
      · have HN2 : Hid (n = 2 + k) := Lib.hid (by rw [HN.out, if_neg h0, if_neg]; rw [List.getElem?_eq_none (by omega)]; simp)
        clear h0
        go_enter Try.func64, Try.ntmps64
        go_wp2_with (first | (go_at_call 84; go_must (refine (HC.out _).mono ?_; rintro e w' ⟨rfl, rfl⟩)) | (go_at_call 35; go_must (refine (HW.out _).mono ?_; rintro e w' ⟨rfl, rfl⟩)))
        go_ret
        exact ⟨ret_int (by rw [HN2.out]; omega), rfl⟩
  · have HC := Lib.hid (fun u => cut2_no l (beq_eq_false_iff_ne.2 ht) u (by omega))
    have H0 : Hid (n = 0) := Lib.hid (by rw [← hn, Lex.flag, if_neg ht])
    obtain ⟨k, hk⟩ : ∃ k, Lex.whileN Lex.letter l = k := ⟨_, rfl⟩
    have HW := Lib.hid (fun u => while_letter l k hk u (by omega))
    clear hn hk ht
    go_enter Try.func64, Try.ntmps64
    go_wp2_with (first | (go_at_call 84; go_must (refine (HC.out _).mono ?_; rintro e w' ⟨rfl, rfl⟩)) | (go_at_call 35; go_must (refine (HW.out _).mono ?_; rintro e w' ⟨rfl, rfl⟩)))
    go_ret
    exact ⟨ret_int (by rw [H0.out]; rfl), rfl⟩
end Go.Proofs.Ytolahnnkdpbdfaa
