/-
  Walks of layer 27: the reference's kind of a token. No condition but that a text is short.
-/
import Derived.Test.YtolahnnkdpbdfaaQ3
namespace Go.Proofs.Ytolahnnkdpbdfaa
open Go.RowKit Go.Sl

set_option maxHeartbeats 2000000 in
theorem rkind_any (l : List UInt8) (m : Nat) (hm : Lex.kind l = m) (w : World) (h1 : 1 ≤ l.length) (hl : l.length ≤ 100000) : Calls Try.prog 38 #[.string (bstr l)] w fun e w' => e = .returned (.int .i64 (m : Nat)) ∧ w = w' := by
  by_cases b0 : l = [94]
  · subst b0
    have HN : Hid (m = 3) := Lib.hid (by rw [← hm]; decide)
    clear hm
    go_enter Try.func38, Try.ntmps38
    go_wp2_with fail
    go_ret
    exact ⟨ret_int (by rw [HN.out]; rfl), rfl⟩
  by_cases b1 : l = [126]
  · subst b1
    have HN : Hid (m = 4) := Lib.hid (by rw [← hm]; decide)
    clear hm
    go_enter Try.func38, Try.ntmps38
    go_wp2_with fail
    go_ret
    exact ⟨ret_int (by rw [HN.out]; rfl), rfl⟩
  by_cases b2 : l = [46, 46]
  · subst b2
    have HN : Hid (m = 5) := Lib.hid (by rw [← hm]; decide)
    clear hm
    go_enter Try.func38, Try.ntmps38
    go_wp2_with fail
    go_ret
    exact ⟨ret_int (by rw [HN.out]; rfl), rfl⟩
  by_cases b3 : l = [46, 46, 46]
  · subst b3
    have HN : Hid (m = 6) := Lib.hid (by rw [← hm]; decide)
    clear hm
    go_enter Try.func38, Try.ntmps38
    go_wp2_with fail
    go_ret
    exact ⟨ret_int (by rw [HN.out]; rfl), rfl⟩
  have hne : l ≠ [] := by rintro rfl; simp at h1
  have HN : Hid (m = (if l.all Lex.isGap then 8 else if Lex.rflag l then 2 else if Lex.rbrace l then 7 else if Lex.rword l then 1 else 0)) := Lib.hid (by rw [← hm, Lex.kind, if_neg hne, if_neg b0, if_neg b1, if_neg b2, if_neg b3])
  clear hm
  have q9 : (l == []) = false := beq_eq_false_iff_ne.2 hne
  have q9' : l.isEmpty = false := by cases l <;> simp_all
  have q0 : (l == [94]) = false := beq_eq_false_iff_ne.2 b0
  have q1 : (l == [126]) = false := beq_eq_false_iff_ne.2 b1
  have q2 : (l == [46, 46]) = false := beq_eq_false_iff_ne.2 b2
  have q3 : (l == [46, 46, 46]) = false := beq_eq_false_iff_ne.2 b3
  clear hne
  obtain ⟨tb, htb⟩ : ∃ b, l.all Lex.isGap = b := ⟨_, rfl⟩
  obtain ⟨tf, htf⟩ : ∃ b, Lex.rflag l = b := ⟨_, rfl⟩
  obtain ⟨tw, htw⟩ : ∃ b, Lex.rword l = b := ⟨_, rfl⟩
  have HB := Lib.hid (fun u => rblanks_any l tb htb u h1 (by omega))
  have HF := Lib.hid (fun u => rflag_any l tf htf u hl)
  have HW := Lib.hid (fun u => rword_any l tw htw u h1 hl)
  rw [htb, htf, htw] at HN
  clear htb htf htw
  cases tb with
  | true =>
    go_enter Try.func38, Try.ntmps38
    go_wp2_with (first | (go_at_call 65; go_must (refine (HB.out _).mono ?_; rintro e w' ⟨rfl, rfl⟩)) | (go_at_call 66; go_must (refine (HF.out _).mono ?_; rintro e w' ⟨rfl, rfl⟩)) | (go_at_call 68; go_must (refine (HW.out _).mono ?_; rintro e w' ⟨rfl, rfl⟩)) | (go_at_call 67; go_must (refine (HL.out _).mono ?_; rintro e w' ⟨rfl, rfl⟩)))
    go_ret
    exact ⟨ret_int (by rw [HN.out]; rfl), rfl⟩
  | false =>
    cases tf with
    | true =>
      go_enter Try.func38, Try.ntmps38
      go_wp2_with (first | (go_at_call 65; go_must (refine (HB.out _).mono ?_; rintro e w' ⟨rfl, rfl⟩)) | (go_at_call 66; go_must (refine (HF.out _).mono ?_; rintro e w' ⟨rfl, rfl⟩)) | (go_at_call 68; go_must (refine (HW.out _).mono ?_; rintro e w' ⟨rfl, rfl⟩)) | (go_at_call 67; go_must (refine (HL.out _).mono ?_; rintro e w' ⟨rfl, rfl⟩)))
      go_ret
      exact ⟨ret_int (by rw [HN.out]; rfl), rfl⟩
    | false =>
      replace HN : Hid (m = (if Lex.rbrace l then 7 else if tw then 1 else 0)) := Lib.hid (by rw [HN.out]; rfl)
      obtain ⟨c0, hc0⟩ : ∃ c, l[0] = c := ⟨_, rfl⟩
      have HH : Hid (l.head? = some c0) := Lib.hid (by rw [← hc0]; cases l <;> simp_all)
      by_cases h2 : 2 ≤ l.length
      · have h2' : (2 : Int) ≤ l.length := by omega
        have g2 : decide ((2 : Int) ≤ l.length) = true := decide_eq_true h2'
        obtain ⟨c9, hc9⟩ : ∃ c, l[l.length - 1] = c := ⟨_, rfl⟩
        have HT : Hid (l.getLast? = some c9) := Lib.hid (by rw [List.getLast?_eq_getElem?, List.getElem?_eq_getElem (by omega), hc9])
        have hix : ((l.length : Int) - 1).toNat = l.length - 1 := by omega
        obtain ⟨tl, htl⟩ : ∃ b, (l.tail.take (l.length - 1 - 1)).all Lex.letter = b := ⟨_, rfl⟩
        have HL := Lib.hid (fun u => rletters_any _ tl htl u (by simp; omega))
        have HR : Hid (Lex.rbrace l = (decide (c0.toNat = 123) && decide (c9.toNat = 125) && tl)) := Lib.hid (by
          rw [Lex.rbrace, HH.out, HT.out, show ((l.drop 1).take (l.length - 2)).all Lex.letter = tl by rw [← htl, List.drop_one, show l.length - 2 = l.length - 1 - 1 by omega], Bool.eq_iff_iff]
          simp only [decide_eq_true_eq, Bool.and_eq_true, Option.some.injEq]
          constructor
          · rintro ⟨_, rfl, rfl, h⟩; exact ⟨⟨rfl, rfl⟩, h⟩
          · rintro ⟨⟨e1, e2⟩, h⟩; exact ⟨h2, u8_is c0 123 123 rfl e1, u8_is c9 125 125 rfl e2, h⟩)
        by_cases h123 : c0.toNat = 123
        · have d123 : ((c0.toNat : Int) == 123) = true := byte_is c0 h123
          by_cases h125 : c9.toNat = 125
          · have d125 : ((c9.toNat : Int) == 125) = true := byte_is c9 h125
            have HZ : Hid (m = (if tl then 7 else if tw then 1 else 0)) := Lib.hid (by rw [HN.out, HR.out, decide_eq_true h123, decide_eq_true h125]; simp)
            clear h123 h125 htl
            cases tl with
            | true =>
              go_enter Try.func38, Try.ntmps38
              go_wp2_with (first | (go_at_call 65; go_must (refine (HB.out _).mono ?_; rintro e w' ⟨rfl, rfl⟩)) | (go_at_call 66; go_must (refine (HF.out _).mono ?_; rintro e w' ⟨rfl, rfl⟩)) | (go_at_call 68; go_must (refine (HW.out _).mono ?_; rintro e w' ⟨rfl, rfl⟩)) | (go_at_call 67; go_must (refine (HL.out _).mono ?_; rintro e w' ⟨rfl, rfl⟩)))
              go_ret
              exact ⟨ret_int (by rw [HZ.out]; rfl), rfl⟩
            | false =>
              cases tw with
              | true =>
                go_enter Try.func38, Try.ntmps38
                go_wp2_with (first | (go_at_call 65; go_must (refine (HB.out _).mono ?_; rintro e w' ⟨rfl, rfl⟩)) | (go_at_call 66; go_must (refine (HF.out _).mono ?_; rintro e w' ⟨rfl, rfl⟩)) | (go_at_call 68; go_must (refine (HW.out _).mono ?_; rintro e w' ⟨rfl, rfl⟩)) | (go_at_call 67; go_must (refine (HL.out _).mono ?_; rintro e w' ⟨rfl, rfl⟩)))
                go_ret
                exact ⟨ret_int (by rw [HZ.out]; rfl), rfl⟩
              | false =>
                go_enter Try.func38, Try.ntmps38
                go_wp2_with (first | (go_at_call 65; go_must (refine (HB.out _).mono ?_; rintro e w' ⟨rfl, rfl⟩)) | (go_at_call 66; go_must (refine (HF.out _).mono ?_; rintro e w' ⟨rfl, rfl⟩)) | (go_at_call 68; go_must (refine (HW.out _).mono ?_; rintro e w' ⟨rfl, rfl⟩)) | (go_at_call 67; go_must (refine (HL.out _).mono ?_; rintro e w' ⟨rfl, rfl⟩)))
                go_ret
                exact ⟨ret_int (by rw [HZ.out]; rfl), rfl⟩
          · have d125 : ((c9.toNat : Int) == 125) = false := byte_not c9 h125
            have HZ : Hid (m = (if tw then 1 else 0)) := Lib.hid (by rw [HN.out, HR.out, decide_eq_false h125]; simp)
            clear h123 h125 htl
            cases tw with
            | true =>
              go_enter Try.func38, Try.ntmps38
              go_wp2_with (first | (go_at_call 65; go_must (refine (HB.out _).mono ?_; rintro e w' ⟨rfl, rfl⟩)) | (go_at_call 66; go_must (refine (HF.out _).mono ?_; rintro e w' ⟨rfl, rfl⟩)) | (go_at_call 68; go_must (refine (HW.out _).mono ?_; rintro e w' ⟨rfl, rfl⟩)) | (go_at_call 67; go_must (refine (HL.out _).mono ?_; rintro e w' ⟨rfl, rfl⟩)))
              go_ret
              exact ⟨ret_int (by rw [HZ.out]; rfl), rfl⟩
            | false =>
              go_enter Try.func38, Try.ntmps38
              go_wp2_with (first | (go_at_call 65; go_must (refine (HB.out _).mono ?_; rintro e w' ⟨rfl, rfl⟩)) | (go_at_call 66; go_must (refine (HF.out _).mono ?_; rintro e w' ⟨rfl, rfl⟩)) | (go_at_call 68; go_must (refine (HW.out _).mono ?_; rintro e w' ⟨rfl, rfl⟩)) | (go_at_call 67; go_must (refine (HL.out _).mono ?_; rintro e w' ⟨rfl, rfl⟩)))
              go_ret
              exact ⟨ret_int (by rw [HZ.out]; rfl), rfl⟩
        · have d123 : ((c0.toNat : Int) == 123) = false := byte_not c0 h123
          have HZ : Hid (m = (if tw then 1 else 0)) := Lib.hid (by rw [HN.out, HR.out, decide_eq_false h123]; simp)
          clear h123 htl
          cases tw with
          | true =>
            go_enter Try.func38, Try.ntmps38
            go_wp2_with (first | (go_at_call 65; go_must (refine (HB.out _).mono ?_; rintro e w' ⟨rfl, rfl⟩)) | (go_at_call 66; go_must (refine (HF.out _).mono ?_; rintro e w' ⟨rfl, rfl⟩)) | (go_at_call 68; go_must (refine (HW.out _).mono ?_; rintro e w' ⟨rfl, rfl⟩)) | (go_at_call 67; go_must (refine (HL.out _).mono ?_; rintro e w' ⟨rfl, rfl⟩)))
            go_ret
            exact ⟨ret_int (by rw [HZ.out]; rfl), rfl⟩
          | false =>
            go_enter Try.func38, Try.ntmps38
            go_wp2_with (first | (go_at_call 65; go_must (refine (HB.out _).mono ?_; rintro e w' ⟨rfl, rfl⟩)) | (go_at_call 66; go_must (refine (HF.out _).mono ?_; rintro e w' ⟨rfl, rfl⟩)) | (go_at_call 68; go_must (refine (HW.out _).mono ?_; rintro e w' ⟨rfl, rfl⟩)) | (go_at_call 67; go_must (refine (HL.out _).mono ?_; rintro e w' ⟨rfl, rfl⟩)))
            go_ret
            exact ⟨ret_int (by rw [HZ.out]; rfl), rfl⟩
      · have g2 : decide ((2 : Int) ≤ l.length) = false := decide_eq_false (by omega)
        have HZ : Hid (m = (if tw then 1 else 0)) := Lib.hid (by rw [HN.out, show Lex.rbrace l = false by rw [Lex.rbrace, decide_eq_false]; omega]; simp)
        clear h2
        cases tw with
        | true =>
          go_enter Try.func38, Try.ntmps38
          go_wp2_with (first | (go_at_call 65; go_must (refine (HB.out _).mono ?_; rintro e w' ⟨rfl, rfl⟩)) | (go_at_call 66; go_must (refine (HF.out _).mono ?_; rintro e w' ⟨rfl, rfl⟩)) | (go_at_call 68; go_must (refine (HW.out _).mono ?_; rintro e w' ⟨rfl, rfl⟩)) | (go_at_call 67; go_must (refine (HL.out _).mono ?_; rintro e w' ⟨rfl, rfl⟩)))
          go_ret
          exact ⟨ret_int (by rw [HZ.out]; rfl), rfl⟩
        | false =>
          go_enter Try.func38, Try.ntmps38
          go_wp2_with (first | (go_at_call 65; go_must (refine (HB.out _).mono ?_; rintro e w' ⟨rfl, rfl⟩)) | (go_at_call 66; go_must (refine (HF.out _).mono ?_; rintro e w' ⟨rfl, rfl⟩)) | (go_at_call 68; go_must (refine (HW.out _).mono ?_; rintro e w' ⟨rfl, rfl⟩)) | (go_at_call 67; go_must (refine (HL.out _).mono ?_; rintro e w' ⟨rfl, rfl⟩)))
          go_ret
          exact ⟨ret_int (by rw [HZ.out]; rfl), rfl⟩
end Go.Proofs.Ytolahnnkdpbdfaa
