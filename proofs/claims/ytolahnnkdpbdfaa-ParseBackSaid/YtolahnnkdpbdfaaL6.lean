/-
  Walks of layer 27: the token with which a text begins, the program's. No condition but that a text is short.
-/
import Derived.Test.YtolahnnkdpbdfaaL5
namespace Go.Proofs.Ytolahnnkdpbdfaa
open Go.RowKit Go.Sl

set_option maxHeartbeats 1000000 in
theorem one_any (l : List UInt8) (kd n : Nat) (hn : Lex.one l = (kd, n)) (w : World) (h1 : 1 ≤ l.length) (hl : l.length ≤ 100000) : Calls Try.prog 33 #[.string (bstr l)] w fun e w' => e = .returned (.tuple #[.int .i64 (kd : Nat), .int .i64 (n : Nat)]) ∧ w = w' := by
  obtain ⟨c, hc⟩ : ∃ c, l[0] = c := ⟨_, rfl⟩
  have hl0 : ∃ r, l = c :: r := by cases l with
    | nil => simp at h1
    | cons x r => exact ⟨r, by rw [← hc]; rfl⟩
  obtain ⟨dn, hdn⟩ : ∃ k, Lex.whileN Lex.isDot l = k := ⟨_, rfl⟩
  obtain ⟨wn, hwn⟩ : ∃ k, Lex.word l = k := ⟨_, rfl⟩
  have hdl := Lex.whileN_le Lex.isDot l
  rw [hdn] at hdl
  have HD := Lib.hid (fun u => while_dot l dn hdn u (by omega))
  have HW := Lib.hid (fun u => word_any l wn hwn u h1 hl)
  have HO : Hid ((kd, n) = (if c.toNat = 32 then (8, Lex.whileN Lex.isGap l) else if c.toNat = 94 then (3, 1) else if c.toNat = 126 then (4, 1) else if c.toNat = 123 then (7, Lex.brace l) else if c.toNat = 45 then (2, Lex.flag l) else if 3 ≤ dn then (6, 3) else if dn = 2 then (5, 2) else (1, wn))) := Lib.hid (by
    rw [← hn, ← hdn, ← hwn]
    obtain ⟨r, hr⟩ := hl0
    rw [hr]; rfl)
  clear hn hdn hwn hl0
  by_cases h32 : c.toNat = 32
  · have d32 : ((c.toNat : Int) == 32) = true := byte_is c h32
    obtain ⟨g, hg⟩ : ∃ k, Lex.whileN Lex.isGap l = k := ⟨_, rfl⟩
    have HG := Lib.hid (fun u => while_gap l g hg u (by omega))
    have HF : Hid (kd = 8 ∧ n = g) := Lib.hid (by have h := HO.out; rw [if_pos h32, hg] at h; simpa using h)
    clear hg
    clear h32
    go_enter Try.func33, Try.ntmps33
    go_wp2_with (first | (go_at_call 35; ((with_reducible refine (HD.out _).mono ?_); rintro e w' ⟨rfl, rfl⟩)) | (go_at_call 61; go_must (refine (HW.out _).mono ?_; rintro e w' ⟨rfl, rfl⟩)) | (go_at_call 35; go_must (refine (HG.out _).mono ?_; rintro e w' ⟨rfl, rfl⟩)))
    go_ret2
    exact ⟨by rw [HF.out.1, HF.out.2]; rfl, rfl⟩
  · have d32 : ((c.toNat : Int) == 32) = false := byte_not c h32
    by_cases h94 : c.toNat = 94
    · have d94 : ((c.toNat : Int) == 94) = true := byte_is c h94
      have HF : Hid (kd = 3 ∧ n = 1) := Lib.hid (by have h := HO.out; rw [if_neg h32, if_pos h94] at h; simpa using h)
      clear h94
      go_enter Try.func33, Try.ntmps33
      go_wp2_with (first | (go_at_call 35; ((with_reducible refine (HD.out _).mono ?_); rintro e w' ⟨rfl, rfl⟩)) | (go_at_call 61; go_must (refine (HW.out _).mono ?_; rintro e w' ⟨rfl, rfl⟩)))
      go_ret2
      exact ⟨by rw [HF.out.1, HF.out.2]; rfl, rfl⟩
    · have d94 : ((c.toNat : Int) == 94) = false := byte_not c h94
      by_cases h126 : c.toNat = 126
      · have d126 : ((c.toNat : Int) == 126) = true := byte_is c h126
        have HF : Hid (kd = 4 ∧ n = 1) := Lib.hid (by have h := HO.out; rw [if_neg h32, if_neg h94, if_pos h126] at h; simpa using h)
        clear h126
        go_enter Try.func33, Try.ntmps33
        go_wp2_with (first | (go_at_call 35; ((with_reducible refine (HD.out _).mono ?_); rintro e w' ⟨rfl, rfl⟩)) | (go_at_call 61; go_must (refine (HW.out _).mono ?_; rintro e w' ⟨rfl, rfl⟩)))
        go_ret2
        exact ⟨by rw [HF.out.1, HF.out.2]; rfl, rfl⟩
      · have d126 : ((c.toNat : Int) == 126) = false := byte_not c h126
        by_cases h123 : c.toNat = 123
        · have d123 : ((c.toNat : Int) == 123) = true := byte_is c h123
          obtain ⟨g, hg⟩ : ∃ k, Lex.brace l = k := ⟨_, rfl⟩
          have HG := Lib.hid (fun u => brace_any l g hg u h1 hl)
          have HF : Hid (kd = 7 ∧ n = g) := Lib.hid (by have h := HO.out; rw [if_neg h32, if_neg h94, if_neg h126, if_pos h123, hg] at h; simpa using h)
          clear hg
          clear h123
          go_enter Try.func33, Try.ntmps33
          go_wp2_with (first | (go_at_call 35; ((with_reducible refine (HD.out _).mono ?_); rintro e w' ⟨rfl, rfl⟩)) | (go_at_call 61; go_must (refine (HW.out _).mono ?_; rintro e w' ⟨rfl, rfl⟩)) | (go_at_call 63; go_must (refine (HG.out _).mono ?_; rintro e w' ⟨rfl, rfl⟩)))
          go_ret2
          exact ⟨by rw [HF.out.1, HF.out.2]; rfl, rfl⟩
        · have d123 : ((c.toNat : Int) == 123) = false := byte_not c h123
          by_cases h45 : c.toNat = 45
          · have d45 : ((c.toNat : Int) == 45) = true := byte_is c h45
            obtain ⟨g, hg⟩ : ∃ k, Lex.flag l = k := ⟨_, rfl⟩
            have HG := Lib.hid (fun u => flag_any l g hg u hl)
            have HF : Hid (kd = 2 ∧ n = g) := Lib.hid (by have h := HO.out; rw [if_neg h32, if_neg h94, if_neg h126, if_neg h123, if_pos h45, hg] at h; simpa using h)
            clear hg
            clear h45
            go_enter Try.func33, Try.ntmps33
            go_wp2_with (first | (go_at_call 35; ((with_reducible refine (HD.out _).mono ?_); rintro e w' ⟨rfl, rfl⟩)) | (go_at_call 61; go_must (refine (HW.out _).mono ?_; rintro e w' ⟨rfl, rfl⟩)) | (go_at_call 64; go_must (refine (HG.out _).mono ?_; rintro e w' ⟨rfl, rfl⟩)))
            go_ret2
            exact ⟨by rw [HF.out.1, HF.out.2]; rfl, rfl⟩
          · have d45 : ((c.toNat : Int) == 45) = false := byte_not c h45
            have HO2 : Hid ((kd, n) = (if 3 ≤ dn then (6, 3) else if dn = 2 then (5, 2) else (1, wn))) := Lib.hid (by have h := HO.out; rw [if_neg h32, if_neg h94, if_neg h126, if_neg h123, if_neg h45] at h; exact h)
            clear h32 h94 h126 h123 h45
            by_cases g3 : 3 ≤ dn
            · have g3' : (3 : Int) ≤ dn := by omega
              have HF : Hid (kd = 6 ∧ n = 3) := Lib.hid (by have h := HO2.out; rw [if_pos g3] at h; simpa using h)
              go_enter Try.func33, Try.ntmps33
              go_wp2_with (first | (go_at_call 35; ((with_reducible refine (HD.out _).mono ?_); rintro e w' ⟨rfl, rfl⟩)) | (go_at_call 61; go_must (refine (HW.out _).mono ?_; rintro e w' ⟨rfl, rfl⟩)))
              go_ret2
              exact ⟨by rw [HF.out.1, HF.out.2]; rfl, rfl⟩
            · by_cases g2 : dn = 2
              · have e2 : ((dn : Int) == 2) = true := by simp [g2]
                have e3 : (2 : Int) ≤ dn := by omega
                have e4 : ¬ (3 : Int) ≤ dn := by omega
                have HF : Hid (kd = 5 ∧ n = 2) := Lib.hid (by have h := HO2.out; rw [if_neg g3, if_pos g2] at h; simpa using h)
                clear g2
                go_enter Try.func33, Try.ntmps33
                go_wp2_with (first | (go_at_call 35; ((with_reducible refine (HD.out _).mono ?_); rintro e w' ⟨rfl, rfl⟩)) | (go_at_call 61; go_must (refine (HW.out _).mono ?_; rintro e w' ⟨rfl, rfl⟩)))
                go_ret2
                exact ⟨by rw [HF.out.1, HF.out.2]; rfl, rfl⟩
              · have e2 : ((dn : Int) == 2) = false := by rw [beq_eq_false_iff_ne]; omega
                have e3 : ¬ (2 : Int) ≤ dn := by omega
                have e4 : ¬ (3 : Int) ≤ dn := by omega
                have HF : Hid (kd = 1 ∧ n = wn) := Lib.hid (by have h := HO2.out; rw [if_neg g3, if_neg g2] at h; simpa using h)
                clear g2
                go_enter Try.func33, Try.ntmps33
                go_wp2_with (first | (go_at_call 35; ((with_reducible refine (HD.out _).mono ?_); rintro e w' ⟨rfl, rfl⟩)) | (go_at_call 61; go_must (refine (HW.out _).mono ?_; rintro e w' ⟨rfl, rfl⟩)))
                go_ret2
                exact ⟨by rw [HF.out.1, HF.out.2]; rfl, rfl⟩
end Go.Proofs.Ytolahnnkdpbdfaa
