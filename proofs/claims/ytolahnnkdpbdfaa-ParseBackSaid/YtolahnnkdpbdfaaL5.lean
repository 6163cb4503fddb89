/-
  Walks of layer 27: words, and the token with which a text begins. No condition but that a text is short.
-/
import Derived.Test.YtolahnnkdpbdfaaL4

namespace Go.Proofs.Ytolahnnkdpbdfaa
open Go.RowKit Go.Sl

theorem byte_is (c : UInt8) {n : Nat} (h : c.toNat = n) : ((c.toNat : Int) == (n : Int)) = true := by rw [h]; simp
theorem byte_not (c : UInt8) {n : Nat} (h : c.toNat ≠ n) : ((c.toNat : Int) == (n : Int)) = false := by
  rw [beq_eq_false_iff_ne]; omega
theorem wordG_go {l : List UInt8} {k : Nat} (hk : k < l.length) (h : (Lex.isDot l[k] = true ∧ ∀ d, (l.drop (k + 1)).head? = some d → Lex.isDot d = false) ∨ Lex.inW l[k] = true) : Lex.wordG (l.drop k) = Lex.wordG (l.drop (k + 1)) + 1 := by
  rw [List.drop_eq_getElem_cons hk, Lex.wordG, if_pos h]
theorem wordG_no {l : List UInt8} {k : Nat} (hk : k < l.length) (h : ¬ ((Lex.isDot l[k] = true ∧ ∀ d, (l.drop (k + 1)).head? = some d → Lex.isDot d = false) ∨ Lex.inW l[k] = true)) : Lex.wordG (l.drop k) = 0 := by
  rw [List.drop_eq_getElem_cons hk, Lex.wordG, if_neg h]
theorem in_dot : ∀ c : UInt8, c.toNat = 46 → Lex.inW c = false := by
  intro c h; unfold Lex.inW Lex.letter Lex.digit; simp; omega

set_option maxHeartbeats 1000000 in
theorem word_any (l : List UInt8) (n : Nat) (hn : Lex.word l = n) (w : World) (h1 : 1 ≤ l.length) (hl : l.length ≤ 100000) : Calls Try.prog 61 #[.string (bstr l)] w fun e w' => e = .returned (.int .i64 (n : Nat)) ∧ w = w' := by
  have he : (l == []) = false := by rw [beq_eq_false_iff_ne]; intro h; subst h; simp at h1
  have he2 : l.isEmpty = false := by cases l <;> simp_all
  obtain ⟨c0, hc0⟩ : ∃ c, l[0] = c := ⟨_, rfl⟩
  have hhead : l.head? = some c0 := by rw [← hc0]; cases l <;> simp_all
  by_cases hm : c0.toNat = 45
  · have hd : ((c0.toNat : Int) == 45) = true := byte_is c0 hm
    have HN : Hid (n = 0) := Lib.hid (by rw [← hn, Lex.word, if_pos (.inr ⟨c0, hhead, hm⟩)])
    clear hn hm hhead
    go_enter Try.func61, Try.ntmps61
    go_wp2_with fail
    go_ret
    exact ⟨ret_int (by rw [HN.out]; rfl), rfl⟩
  · have hd : ((c0.toNat : Int) == 45) = false := byte_not c0 hm
    have HN : Hid (n = Lex.wordG l) := Lib.hid (by
      rw [← hn, Lex.word, if_neg]
      rintro (h | ⟨c, h2, h3⟩)
      · rw [h] at h1; simp at h1
      · rw [hhead] at h2; cases h2; exact hm h3)
    clear hn hm hhead
    go_enter Try.func61, Try.ntmps61
    go_wp2_with fail
    go_loop [3] (fun i => ∃ (k : Nat), k ≤ l.length ∧ i = .int .i64 k ∧ Hid (Lex.wordG l = k + Lex.wordG (l.drop k))) (fun i => l.length - (intOf i).toNat)
    case atStart => exact ⟨0, by omega, rfl, Lib.hid (by simp)⟩
    case round =>
      clear hd hc0 he he2
      obtain ⟨k, hk, rfl, HT⟩ := hrel
      by_cases hlt : k < l.length
      · obtain ⟨c, hc⟩ : ∃ c, l[k] = c := ⟨_, rfl⟩
        have HG : Hid (((Lex.isDot c = true ∧ ∀ d, (l.drop (k + 1)).head? = some d → Lex.isDot d = false) ∨ Lex.inW c = true) → Lex.wordG l = (k + 1) + Lex.wordG (l.drop (k + 1))) := Lib.hid fun h => by rw [HT.out, wordG_go hlt (by rw [hc]; exact h)]; omega
        have HS : Hid (¬ ((Lex.isDot c = true ∧ ∀ d, (l.drop (k + 1)).head? = some d → Lex.isDot d = false) ∨ Lex.inW c = true) → n = k) := Lib.hid fun h => by rw [HN.out, HT.out, wordG_no hlt (by rw [hc]; exact h)]; rfl
        by_cases hdot : c.toNat = 46
        · have hd : ((c.toNat : Int) == 46) = true := byte_is c hdot
          have HDot := Lib.hid hdot
          have hin := in_dot c hdot
          have HI := Lib.hid (fun u => hin ▸ in_any c u)
          have HIn := Lib.hid hin
          clear hdot hin
          by_cases hlast : k + 1 < l.length
          · obtain ⟨d, hd2⟩ : ∃ d, l[k + 1] = d := ⟨_, rfl⟩
            have HD : Hid ((l.drop (k + 1)).head? = some d) := Lib.hid (by rw [List.drop_eq_getElem_cons hlast, hd2]; rfl)
            have hend : ((k : Int) + 1 == (l.length : Int)) = false := by rw [beq_eq_false_iff_ne]; omega
            by_cases h46 : d.toNat = 46
            · have hb : ((d.toNat : Int) == 46) = true := byte_is d h46
              have hb2 : ((d.toNat : Int) != 46) = false := by rw [bne, show ((d.toNat : Int) == 46) = true from hb]; rfl
              have HF : Hid (n = k) := Lib.hid (HS.out (by
                rintro (⟨_, h⟩ | h)
                · have := h d HD.out; unfold Lex.isDot at this; simp [h46] at this
                · rw [HIn.out] at h; cases h))
              clear h46
              go_wp2_with (go_at_call 82; go_must (refine (HI.out _).mono ?_; rintro e w' ⟨rfl, rfl⟩))
              go_ret
              exact ⟨ret_int (by rw [HF.out]), rfl⟩
            · have hb : ((d.toNat : Int) == 46) = false := byte_not d h46
              have hb2 : ((d.toNat : Int) != 46) = true := by rw [bne, show ((d.toNat : Int) == 46) = false from hb]; rfl
              have HF : Hid _ := Lib.hid (HG.out (.inl ⟨by unfold Lex.isDot; simp [HDot.out], fun d' h => by rw [HD.out] at h; cases h; unfold Lex.isDot; simpa using h46⟩))
              clear h46
              go_wp2_with (go_at_call 82; go_must (refine (HI.out _).mono ?_; rintro e w' ⟨rfl, rfl⟩))
              go_round
              case rel => exact ⟨k + 1, by omega, by go_num, HF⟩
              case measure => simp [intOf]; omega
          · have hend : ((k : Int) + 1 == (l.length : Int)) = true := by rw [beq_iff_eq]; omega
            have HF : Hid _ := Lib.hid (HG.out (.inl ⟨by unfold Lex.isDot; simp [HDot.out], fun d' h => by rw [List.drop_eq_nil_of_le (by omega)] at h; cases h⟩))
            go_wp2_with (go_at_call 82; go_must (refine (HI.out _).mono ?_; rintro e w' ⟨rfl, rfl⟩))
            go_round
            case rel => exact ⟨k + 1, by omega, by go_num, HF⟩
            case measure => simp [intOf]; omega
        · have hd : ((c.toNat : Int) == 46) = false := byte_not c hdot
          have HDot : Hid (Lex.isDot c = false) := Lib.hid (by unfold Lex.isDot; simpa using hdot)
          clear hdot
          cases hin : Lex.inW c with
          | true =>
            have HI := Lib.hid (fun u => hin ▸ in_any c u)
            have HF : Hid _ := Lib.hid (HG.out (.inr hin))
            clear hin
            go_wp2_with (go_at_call 82; go_must (refine (HI.out _).mono ?_; rintro e w' ⟨rfl, rfl⟩))
            go_round
            case rel => exact ⟨k + 1, by omega, by go_num, HF⟩
            case measure => simp [intOf]; omega
          | false =>
            have HI := Lib.hid (fun u => hin ▸ in_any c u)
            have HF : Hid (n = k) := Lib.hid (HS.out (by
              rintro (⟨h, _⟩ | h)
              · rw [HDot.out] at h; cases h
              · rw [hin] at h; cases h))
            clear hin
            go_wp2_with (go_at_call 82; go_must (refine (HI.out _).mono ?_; rintro e w' ⟨rfl, rfl⟩))
            go_ret
            exact ⟨ret_int (by rw [HF.out]), rfl⟩
      · have HF : Hid (n = k) := Lib.hid (by rw [HN.out, HT.out, List.drop_eq_nil_of_le (by omega)]; rfl)
        go_wp2_with fail
        go_ret
        exact ⟨ret_int (by rw [HF.out]), rfl⟩
end Go.Proofs.Ytolahnnkdpbdfaa
