/-
  Walks of layer 27: the reference's flags. No condition but that a text is short.
-/
import Derived.Test.YtolahnnkdpbdfaaQ2
namespace Go.Proofs.Ytolahnnkdpbdfaa
open Go.RowKit Go.Sl

theorem rfS_go {l : List UInt8} {k : Nat} {c : UInt8} (h2 : 2 ≤ k) (hk : k < l.length) (hc : l[k] = c) (h : c.toNat ≠ 61) : Lex.rfS ((l.drop 2).take (k - 2)) (l.drop k) = Lex.rfS ((l.drop 2).take (k + 1 - 2)) (l.drop (k + 1)) := by
  rw [List.drop_eq_getElem_cons hk, hc, Lex.rfS, if_neg h, show k + 1 - 2 = (k - 2) + 1 by omega, List.take_add_one]
  congr 1
  rw [List.getElem?_drop, show 2 + (k - 2) = k by omega, List.getElem?_eq_getElem hk, hc]; rfl
theorem rfS_eq {l : List UInt8} {k : Nat} {c : UInt8} (hk : k < l.length) (hc : l[k] = c) (h : c.toNat = 61) (a : List UInt8) : Lex.rfS a (l.drop k) = (a.all Lex.letter && (decide (k + 1 < l.length) && (l.drop (k + 1)).all Lex.digit)) := by
  rw [List.drop_eq_getElem_cons hk, hc, Lex.rfS, if_pos h]
  congr 2
  rw [decide_eq_decide, ne_eq, List.drop_eq_nil_iff]; omega

set_option maxHeartbeats 2000000 in
theorem rflag_any (l : List UInt8) (t : Bool) (ht : Lex.rflag l = t) (w : World) (hl : l.length ≤ 100000) : Calls Try.prog 66 #[.string (bstr l)] w fun e w' => e = .returned (.bool t) ∧ w = w' := by
  by_cases h3 : l.length < 3
  · have HN : Hid (t = false) := Lib.hid (by
      rw [← ht]; match l, h3 with
      | [], _ => rfl
      | [_], _ => rfl
      | [_, _], _ => rfl)
    have hd : decide ((l.length : Int) < 3) = true := decide_eq_true (by omega)
    clear ht
    go_enter Try.func66, Try.ntmps66
    go_wp2_with fail
    go_ret
    exact ⟨ret_bool HN.out.symm, rfl⟩
  · have hd : decide ((l.length : Int) < 3) = false := decide_eq_false (by omega)
    obtain ⟨x, y, hxy, HX⟩ : ∃ x y, l.take 2 = [x, y] ∧ Hid (t = (decide (x.toNat = 45) && decide (y.toNat = 45) && Lex.rfS ((l.drop 2).take (3 - 2)) (l.drop 3))) := by
      match l, h3, ht with
      | x :: y :: z :: r, _, ht => exact ⟨x, y, rfl, Lib.hid ht.symm⟩
      | [_, _], h, _ => exact absurd (by simp) h
      | [_], h, _ => exact absurd (by simp) h
      | [], h, _ => exact absurd (by simp) h
    clear ht
    have h3' : 3 ≤ l.length := by omega
    clear h3
    by_cases hx : x.toNat = 45
    · by_cases hy : y.toNat = 45
      · have gx : decide (x = 45) = true := decide_eq_true (u8_is x 45 45 rfl hx)
        have gy : decide (y = 45) = true := decide_eq_true (u8_is y 45 45 rfl hy)
        have qx : (x == 45) = true := beq_iff_eq.2 (u8_is x 45 45 rfl hx)
        have qy : (y == 45) = true := beq_iff_eq.2 (u8_is y 45 45 rfl hy)
        have HN : Hid (t = Lex.rfS ((l.drop 2).take (3 - 2)) (l.drop 3)) := Lib.hid (by rw [HX.out, decide_eq_true hx, decide_eq_true hy]; rfl)
        clear hx hy
        go_enter Try.func66, Try.ntmps66
        go_wp2_with fail
        go_loop [3] (fun i => ∃ (k : Nat), 3 ≤ k ∧ k ≤ l.length ∧ i = .int .i64 k ∧ Hid (t = Lex.rfS ((l.drop 2).take (k - 2)) (l.drop k))) (fun i => l.length - (intOf i).toNat)
        case atStart => exact ⟨3, by omega, by omega, rfl, HN⟩
        case round =>
          obtain ⟨k, hk3, hk, rfl, HT⟩ := hrel
          by_cases hlt : k < l.length
          · obtain ⟨c, hc⟩ : ∃ c, l[k] = c := ⟨_, rfl⟩
            by_cases h61 : c.toNat = 61
            · have d61 : ((c.toNat : Int) == 61) = true := byte_is c h61
              have HE : Hid (t = (((l.drop 2).take (k - 2)).all Lex.letter && (decide (k + 1 < l.length) && (l.drop (k + 1)).all Lex.digit))) := Lib.hid (by rw [HT.out, rfS_eq hlt hc h61])
              obtain ⟨tl, htl⟩ : ∃ b, ((l.drop 2).take (k - 2)).all Lex.letter = b := ⟨_, rfl⟩
              have HL := Lib.hid (fun u => rletters_any _ tl htl u (by simp; omega))
              clear h61
              by_cases hlt2 : k + 1 < l.length
              · have hlt2' : (k : Int) + 1 < l.length := by omega
                obtain ⟨td, htd⟩ : ∃ b, (l.drop (k + 1)).all Lex.digit = b := ⟨_, rfl⟩
                have HD := Lib.hid (fun u => rdigits_any _ td htd u (by simp; omega))
                have HZ : Hid (t = (tl && td)) := Lib.hid (by rw [HE.out, htl, htd, decide_eq_true hlt2]; simp)
                clear htl htd
                cases tl with
                | true =>
                  go_wp2_with (first | (go_at_call 67; go_must (refine (HL.out _).mono ?_; rintro e w' ⟨rfl, rfl⟩)) | (go_at_call 37; go_must (refine (HD.out _).mono ?_; rintro e w' ⟨rfl, rfl⟩)))
                  go_ret
                  exact ⟨ret_bool (by rw [HZ.out]; simp), rfl⟩
                | false =>
                  go_wp2_with (first | (go_at_call 67; go_must (refine (HL.out _).mono ?_; rintro e w' ⟨rfl, rfl⟩)) | (go_at_call 37; go_must (refine (HD.out _).mono ?_; rintro e w' ⟨rfl, rfl⟩)))
                  go_ret
                  exact ⟨ret_bool (by rw [HZ.out]; simp), rfl⟩
              · have hlt2' : ¬ (k : Int) + 1 < l.length := by omega
                have HZ : Hid (t = false) := Lib.hid (by rw [HE.out, decide_eq_false hlt2]; simp)
                clear htl
                cases tl with
                | true =>
                  go_wp2_with (first | (go_at_call 67; go_must (refine (HL.out _).mono ?_; rintro e w' ⟨rfl, rfl⟩)) | (go_at_call 37; go_must (refine (HD.out _).mono ?_; rintro e w' ⟨rfl, rfl⟩)))
                  go_ret
                  exact ⟨ret_bool (by rw [HZ.out]), rfl⟩
                | false =>
                  go_wp2_with (first | (go_at_call 67; go_must (refine (HL.out _).mono ?_; rintro e w' ⟨rfl, rfl⟩)) | (go_at_call 37; go_must (refine (HD.out _).mono ?_; rintro e w' ⟨rfl, rfl⟩)))
                  go_ret
                  exact ⟨ret_bool (by rw [HZ.out]), rfl⟩
            · have d61 : ((c.toNat : Int) == 61) = false := byte_not c h61
              have HZ : Hid (t = Lex.rfS ((l.drop 2).take (k + 1 - 2)) (l.drop (k + 1))) := Lib.hid (by rw [HT.out, rfS_go (by omega) hlt hc h61])
              clear h61
              go_wp2_with fail
              go_round
              case rel => exact ⟨k + 1, by omega, by omega, by go_num, HZ⟩
              case measure => simp [intOf]; omega
          · obtain ⟨tl, htl⟩ : ∃ b, (l.drop 2).all Lex.letter = b := ⟨_, rfl⟩
            have HL := Lib.hid (fun u => rletters_any _ tl htl u (by simp; omega))
            have HZ : Hid (t = tl) := Lib.hid (by rw [HT.out, show l.drop k = [] from List.drop_eq_nil_of_le (by omega), Lex.rfS, List.take_of_length_le (by simp; omega), htl])
            clear htl
            go_wp2_with (first | (go_at_call 67; go_must (refine (HL.out _).mono ?_; rintro e w' ⟨rfl, rfl⟩)) | (go_at_call 37; go_must (refine (HD.out _).mono ?_; rintro e w' ⟨rfl, rfl⟩)))
            go_ret
            exact ⟨ret_bool (by rw [HZ.out]), rfl⟩
      · have gx : decide (x = 45) = true := decide_eq_true (u8_is x 45 45 rfl hx)
        have qx : (x == 45) = true := beq_iff_eq.2 (u8_is x 45 45 rfl hx)
        have gy : decide (y = 45) = false := decide_eq_false (u8_not y 45 45 rfl hy)
        have qy : (y == 45) = false := beq_eq_false_iff_ne.2 (u8_not y 45 45 rfl hy)
        have HN : Hid (t = false) := Lib.hid (by rw [HX.out, decide_eq_false hy]; simp)
        clear hx hy
        go_enter Try.func66, Try.ntmps66
        go_wp2_with fail
        go_ret
        exact ⟨ret_bool HN.out.symm, rfl⟩
    · have gx : decide (x = 45) = false := decide_eq_false (u8_not x 45 45 rfl hx)
      have qx : (x == 45) = false := beq_eq_false_iff_ne.2 (u8_not x 45 45 rfl hx)
      have HN : Hid (t = false) := Lib.hid (by rw [HX.out, decide_eq_false hx]; simp)
      clear hx
      go_enter Try.func66, Try.ntmps66
      go_wp2_with fail
      go_ret
      exact ⟨ret_bool HN.out.symm, rfl⟩
end Go.Proofs.Ytolahnnkdpbdfaa
