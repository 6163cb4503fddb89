/-
  Walks of layer 27: the reference's words. No condition but that a text is short.
-/
import Derived.Test.YtolahnnkdpbdfaaQ1
namespace Go.Proofs.Ytolahnnkdpbdfaa
open Go.RowKit Go.Sl

theorem rwG_step {l : List UInt8} {k : Nat} {c : UInt8} (hk : k < l.length) (hc : l[k] = c) : Lex.rwG (l.drop k) = ((Lex.inW c || Lex.isDot c) && !(Lex.isDot c && Lex.nextDot (l.drop (k + 1))) && Lex.rwG (l.drop (k + 1))) := by
  rw [List.drop_eq_getElem_cons hk, Lex.rwG, hc]
theorem one_of {l : List UInt8} {k : Nat} {c : UInt8} (hk : k < l.length) (hc : l[k] = c) : (l.drop k).take (k + 1 - k) = [c] := by
  rw [List.drop_eq_getElem_cons hk, hc, show k + 1 - k = 1 by omega]; rfl
theorem all1 (p : UInt8 → Bool) (c : UInt8) : [c].all p = p c := by simp
theorem u8_is (c d : UInt8) (n : Nat) (hd : d.toNat = n) (h : c.toNat = n) : c = d := UInt8.toNat_inj.1 (h.trans hd.symm)
theorem u8_not (c d : UInt8) (n : Nat) (hd : d.toNat = n) (h : c.toNat ≠ n) : ¬ c = d := by rintro rfl; exact h hd

set_option maxHeartbeats 2000000 in
theorem rword_any (l : List UInt8) (t : Bool) (ht : Lex.rword l = t) (w : World) (h1 : 1 ≤ l.length) (hl : l.length ≤ 100000) : Calls Try.prog 68 #[.string (bstr l)] w fun e w' => e = .returned (.bool t) ∧ w = w' := by
  obtain ⟨c0, hc0⟩ : ∃ c, l[0] = c := ⟨_, rfl⟩
  have he : (l == []) = false := by rw [beq_eq_false_iff_ne]; intro h; subst h; simp at h1
  have he2 : l.isEmpty = false := by cases l <;> simp_all
  have HC0 : Hid (l.head? = some c0) := Lib.hid (by rw [← hc0]; cases l <;> simp_all)
  have HR : Hid (t = (!decide (c0.toNat = 45) && Lex.rwG l)) := Lib.hid (by
    rw [← ht]; cases l with
    | nil => simp at h1
    | cons x r => have : x = c0 := by simpa using hc0
                  rw [this]; rfl)
  clear ht
  by_cases hm : c0.toNat = 45
  · have hd : ((c0.toNat : Int) == 45) = true := byte_is c0 hm
    have HN : Hid (t = false) := Lib.hid (by rw [HR.out, hm]; rfl)
    clear hm
    go_enter Try.func68, Try.ntmps68
    go_wp2_with fail
    go_ret
    exact ⟨ret_bool HN.out.symm, rfl⟩
  · have hd : ((c0.toNat : Int) == 45) = false := byte_not c0 hm
    have HN : Hid (t = Lex.rwG l) := Lib.hid (by rw [HR.out, decide_eq_false hm]; simp)
    clear hm
    go_enter Try.func68, Try.ntmps68
    go_wp2_with fail
    go_loop [3] (fun i => ∃ (k : Nat), k ≤ l.length ∧ i = .int .i64 k ∧ Hid (Lex.rwG l = Lex.rwG (l.drop k))) (fun i => l.length - (intOf i).toNat)
    case atStart => exact ⟨0, by omega, rfl, Lib.hid (by simp)⟩
    case round =>
      obtain ⟨k, hk, rfl, HT⟩ := hrel
      by_cases hlt : k < l.length
      · obtain ⟨c, hc⟩ : ∃ c, l[k] = c := ⟨_, rfl⟩
        have h11 : (l.drop k).take (k + 1 - k) = [c] := one_of hlt hc
        have h12 : (l.drop k).take 1 = [c] := by rw [← h11, show k + 1 - k = 1 by omega]
        obtain ⟨tl, htl⟩ : ∃ b, Lex.letter c = b := ⟨_, rfl⟩
        obtain ⟨td, htd⟩ : ∃ b, Lex.digit c = b := ⟨_, rfl⟩
        have HL := Lib.hid (fun u => rletters_any [c] tl (by rw [all1, htl]) u (by simp))
        have HD := Lib.hid (fun u => rdigits_any [c] td (by rw [all1, htd]) u (by simp))
        have HG : Hid (Lex.inW c = true → Lex.rwG l = Lex.rwG (l.drop (k + 1))) := Lib.hid fun h => by
          have h46 : Lex.isDot c = false := by
            cases he : Lex.isDot c with
            | false => rfl
            | true => rw [in_dot c (by unfold Lex.isDot at he; simpa using he)] at h; exact absurd h (by simp)
          rw [HT.out, rwG_step hlt hc, h, h46]; simp
        have HX : Hid (Lex.inW c = false → Lex.isDot c = false → t = false) := Lib.hid fun h h46 => by
          rw [HN.out, HT.out, rwG_step hlt hc, h, h46]; rfl
        have HW := Lib.hid (show Lex.inW c = decide (tl = true ∨ td = true ∨ c.toNat = 47 ∨ c.toNat = 95 ∨ c.toNat = 45 ∨ c.toNat = 64) by unfold Lex.inW; rw [htl, htd])
        have HD46 : Hid (c.toNat = 46 → tl = false ∧ td = false) := Lib.hid fun h => by
          rw [← htl, ← htd]; unfold Lex.letter Lex.digit; simp; omega
        have HND : Hid (tl = true ∨ td = true → c.toNat ≠ 46) := Lib.hid fun h h46 => by
          have := HD46.out h46; rcases h with h | h <;> simp_all
        clear htl htd
        cases tl with
        | true =>
          have hne := HND.out (.inl rfl)
          have e46 := u8_not c 46 46 rfl (by omega)
          have g46 : decide (c = 46) = false := decide_eq_false e46
          have q46 : (c == 46) = false := beq_eq_false_iff_ne.2 e46
          clear hne
          have HZ := Lib.hid (HG.out (by rw [HW.out]; simp))
          go_wp2_with (first | (go_at_call 67; go_must (refine (HL.out _).mono ?_; rintro e w' ⟨rfl, rfl⟩)) | (go_at_call 37; go_must (refine (HD.out _).mono ?_; rintro e w' ⟨rfl, rfl⟩)))
          go_round
          case rel => exact ⟨k + 1, by omega, by go_num, HZ⟩
          case measure => simp [intOf]; omega
        | false =>
          cases td with
          | true =>
            have hne := HND.out (.inr rfl)
            have e46 := u8_not c 46 46 rfl (by omega)
            have g46 : decide (c = 46) = false := decide_eq_false e46
            have q46 : (c == 46) = false := beq_eq_false_iff_ne.2 e46
            clear hne
            have HZ := Lib.hid (HG.out (by rw [HW.out]; simp))
            go_wp2_with (first | (go_at_call 67; go_must (refine (HL.out _).mono ?_; rintro e w' ⟨rfl, rfl⟩)) | (go_at_call 37; go_must (refine (HD.out _).mono ?_; rintro e w' ⟨rfl, rfl⟩)))
            go_round
            case rel => exact ⟨k + 1, by omega, by go_num, HZ⟩
            case measure => simp [intOf]; omega
          | false =>
            by_cases h47 : c.toNat = 47
            · have e47 := u8_is c 47 47 rfl (by omega)
              have g47 : decide (c = 47) = true := decide_eq_true e47
              have q47 : (c == 47) = true := beq_iff_eq.2 e47
              clear e47
              have e46 := u8_not c 46 46 rfl (by omega)
              have g46 : decide (c = 46) = false := decide_eq_false e46
              have q46 : (c == 46) = false := beq_eq_false_iff_ne.2 e46
              have HZ := Lib.hid (HG.out (by rw [HW.out]; simp [h47]))
              clear h47
              go_wp2_with (first | (go_at_call 67; go_must (refine (HL.out _).mono ?_; rintro e w' ⟨rfl, rfl⟩)) | (go_at_call 37; go_must (refine (HD.out _).mono ?_; rintro e w' ⟨rfl, rfl⟩)))
              go_round
              case rel => exact ⟨k + 1, by omega, by go_num, HZ⟩
              case measure => simp [intOf]; omega
            by_cases h95 : c.toNat = 95
            · have e47 := u8_not c 47 47 rfl (by omega)
              have g47 : decide (c = 47) = false := decide_eq_false e47
              have q47 : (c == 47) = false := beq_eq_false_iff_ne.2 e47
              have e95 := u8_is c 95 95 rfl (by omega)
              have g95 : decide (c = 95) = true := decide_eq_true e95
              have q95 : (c == 95) = true := beq_iff_eq.2 e95
              clear e95
              have e46 := u8_not c 46 46 rfl (by omega)
              have g46 : decide (c = 46) = false := decide_eq_false e46
              have q46 : (c == 46) = false := beq_eq_false_iff_ne.2 e46
              have HZ := Lib.hid (HG.out (by rw [HW.out]; simp [h95]))
              clear h95
              go_wp2_with (first | (go_at_call 67; go_must (refine (HL.out _).mono ?_; rintro e w' ⟨rfl, rfl⟩)) | (go_at_call 37; go_must (refine (HD.out _).mono ?_; rintro e w' ⟨rfl, rfl⟩)))
              go_round
              case rel => exact ⟨k + 1, by omega, by go_num, HZ⟩
              case measure => simp [intOf]; omega
            by_cases h45 : c.toNat = 45
            · have e47 := u8_not c 47 47 rfl (by omega)
              have g47 : decide (c = 47) = false := decide_eq_false e47
              have q47 : (c == 47) = false := beq_eq_false_iff_ne.2 e47
              have e95 := u8_not c 95 95 rfl (by omega)
              have g95 : decide (c = 95) = false := decide_eq_false e95
              have q95 : (c == 95) = false := beq_eq_false_iff_ne.2 e95
              have e45 := u8_is c 45 45 rfl (by omega)
              have g45 : decide (c = 45) = true := decide_eq_true e45
              have q45 : (c == 45) = true := beq_iff_eq.2 e45
              clear e45
              have e46 := u8_not c 46 46 rfl (by omega)
              have g46 : decide (c = 46) = false := decide_eq_false e46
              have q46 : (c == 46) = false := beq_eq_false_iff_ne.2 e46
              have HZ := Lib.hid (HG.out (by rw [HW.out]; simp [h45]))
              clear h45
              go_wp2_with (first | (go_at_call 67; go_must (refine (HL.out _).mono ?_; rintro e w' ⟨rfl, rfl⟩)) | (go_at_call 37; go_must (refine (HD.out _).mono ?_; rintro e w' ⟨rfl, rfl⟩)))
              go_round
              case rel => exact ⟨k + 1, by omega, by go_num, HZ⟩
              case measure => simp [intOf]; omega
            by_cases h64 : c.toNat = 64
            · have e47 := u8_not c 47 47 rfl (by omega)
              have g47 : decide (c = 47) = false := decide_eq_false e47
              have q47 : (c == 47) = false := beq_eq_false_iff_ne.2 e47
              have e95 := u8_not c 95 95 rfl (by omega)
              have g95 : decide (c = 95) = false := decide_eq_false e95
              have q95 : (c == 95) = false := beq_eq_false_iff_ne.2 e95
              have e45 := u8_not c 45 45 rfl (by omega)
              have g45 : decide (c = 45) = false := decide_eq_false e45
              have q45 : (c == 45) = false := beq_eq_false_iff_ne.2 e45
              have e64 := u8_is c 64 64 rfl (by omega)
              have g64 : decide (c = 64) = true := decide_eq_true e64
              have q64 : (c == 64) = true := beq_iff_eq.2 e64
              clear e64
              have e46 := u8_not c 46 46 rfl (by omega)
              have g46 : decide (c = 46) = false := decide_eq_false e46
              have q46 : (c == 46) = false := beq_eq_false_iff_ne.2 e46
              have HZ := Lib.hid (HG.out (by rw [HW.out]; simp [h64]))
              clear h64
              go_wp2_with (first | (go_at_call 67; go_must (refine (HL.out _).mono ?_; rintro e w' ⟨rfl, rfl⟩)) | (go_at_call 37; go_must (refine (HD.out _).mono ?_; rintro e w' ⟨rfl, rfl⟩)))
              go_round
              case rel => exact ⟨k + 1, by omega, by go_num, HZ⟩
              case measure => simp [intOf]; omega
            by_cases h46 : c.toNat = 46
            · have e47 := u8_not c 47 47 rfl (by omega)
              have g47 : decide (c = 47) = false := decide_eq_false e47
              have q47 : (c == 47) = false := beq_eq_false_iff_ne.2 e47
              have e95 := u8_not c 95 95 rfl (by omega)
              have g95 : decide (c = 95) = false := decide_eq_false e95
              have q95 : (c == 95) = false := beq_eq_false_iff_ne.2 e95
              have e45 := u8_not c 45 45 rfl (by omega)
              have g45 : decide (c = 45) = false := decide_eq_false e45
              have q45 : (c == 45) = false := beq_eq_false_iff_ne.2 e45
              have e64 := u8_not c 64 64 rfl (by omega)
              have g64 : decide (c = 64) = false := decide_eq_false e64
              have q64 : (c == 64) = false := beq_eq_false_iff_ne.2 e64
              have e46 := u8_is c 46 46 rfl (by omega)
              have g46 : decide (c = 46) = true := decide_eq_true e46
              have q46 : (c == 46) = true := beq_iff_eq.2 e46
              clear e46
              have HS : Hid (Lex.rwG l = (!Lex.nextDot (l.drop (k + 1)) && Lex.rwG (l.drop (k + 1)))) := Lib.hid (by
                rw [HT.out, rwG_step hlt hc, show Lex.isDot c = true by unfold Lex.isDot; simpa using h46]; simp)
              clear h46
              by_cases hlt2 : k + 1 < l.length
              · have hlt2' : (k : Int) + 1 < l.length := by omega
                obtain ⟨c2, hc2⟩ : ∃ c, l[k + 1] = c := ⟨_, rfl⟩
                have HD2 : Hid (Lex.nextDot (l.drop (k + 1)) = Lex.isDot c2) := Lib.hid (by rw [List.drop_eq_getElem_cons hlt2, hc2]; rfl)
                by_cases h2 : c2.toNat = 46
                · have d2 : ((c2.toNat : Int) == 46) = true := byte_is c2 h2
                  have HZ : Hid (t = false) := Lib.hid (by rw [HN.out, HS.out, HD2.out, show Lex.isDot c2 = true by unfold Lex.isDot; simpa using h2]; rfl)
                  clear h2
                  go_wp2_with (first | (go_at_call 67; go_must (refine (HL.out _).mono ?_; rintro e w' ⟨rfl, rfl⟩)) | (go_at_call 37; go_must (refine (HD.out _).mono ?_; rintro e w' ⟨rfl, rfl⟩)))
                  go_ret
                  exact ⟨ret_bool HZ.out.symm, rfl⟩
                · have d2 : ((c2.toNat : Int) == 46) = false := byte_not c2 h2
                  have HZ : Hid (Lex.rwG l = Lex.rwG (l.drop (k + 1))) := Lib.hid (by rw [HS.out, HD2.out, show Lex.isDot c2 = false by unfold Lex.isDot; simpa using h2]; simp)
                  clear h2
                  go_wp2_with (first | (go_at_call 67; go_must (refine (HL.out _).mono ?_; rintro e w' ⟨rfl, rfl⟩)) | (go_at_call 37; go_must (refine (HD.out _).mono ?_; rintro e w' ⟨rfl, rfl⟩)))
                  go_round
                  case rel => exact ⟨k + 1, by omega, by go_num, HZ⟩
                  case measure => simp [intOf]; omega
              · have hlt2' : ¬ (k : Int) + 1 < l.length := by omega
                have HZ : Hid (Lex.rwG l = Lex.rwG (l.drop (k + 1))) := Lib.hid (by rw [HS.out, List.drop_eq_nil_of_le (by omega)]; rfl)
                go_wp2_with (first | (go_at_call 67; go_must (refine (HL.out _).mono ?_; rintro e w' ⟨rfl, rfl⟩)) | (go_at_call 37; go_must (refine (HD.out _).mono ?_; rintro e w' ⟨rfl, rfl⟩)))
                go_round
                case rel => exact ⟨k + 1, by omega, by go_num, HZ⟩
                case measure => simp [intOf]; omega
            · have e47 := u8_not c 47 47 rfl (by omega)
              have g47 : decide (c = 47) = false := decide_eq_false e47
              have q47 : (c == 47) = false := beq_eq_false_iff_ne.2 e47
              have e95 := u8_not c 95 95 rfl (by omega)
              have g95 : decide (c = 95) = false := decide_eq_false e95
              have q95 : (c == 95) = false := beq_eq_false_iff_ne.2 e95
              have e45 := u8_not c 45 45 rfl (by omega)
              have g45 : decide (c = 45) = false := decide_eq_false e45
              have q45 : (c == 45) = false := beq_eq_false_iff_ne.2 e45
              have e64 := u8_not c 64 64 rfl (by omega)
              have g64 : decide (c = 64) = false := decide_eq_false e64
              have q64 : (c == 64) = false := beq_eq_false_iff_ne.2 e64
              have e46 := u8_not c 46 46 rfl (by omega)
              have g46 : decide (c = 46) = false := decide_eq_false e46
              have q46 : (c == 46) = false := beq_eq_false_iff_ne.2 e46
              have HZ : Hid (t = false) := Lib.hid (HX.out (by rw [HW.out]; simp [h47, h95, h45, h64]) (by unfold Lex.isDot; simpa using h46))
              clear h47 h95 h45 h64 h46
              go_wp2_with (first | (go_at_call 67; go_must (refine (HL.out _).mono ?_; rintro e w' ⟨rfl, rfl⟩)) | (go_at_call 37; go_must (refine (HD.out _).mono ?_; rintro e w' ⟨rfl, rfl⟩)))
              go_ret
              exact ⟨ret_bool HZ.out.symm, rfl⟩
      · have HE : Hid (t = true) := Lib.hid (by rw [HN.out, HT.out, List.drop_eq_nil_of_le (by omega)]; rfl)
        go_wp2_with fail
        go_ret
        exact ⟨ret_bool HE.out.symm, rfl⟩
end Go.Proofs.Ytolahnnkdpbdfaa
