/-
  Walks of layer 27: the reference's first token. No condition but that a text is short.
-/
import Derived.Test.YtolahnnkdpbdfaaQ4
namespace Go.Proofs.Ytolahnnkdpbdfaa
open Go.RowKit Go.Sl

theorem down_no {l : List UInt8} {p : Nat} (h : Lex.skip l (p + 1) = true) : Lex.down l (p + 1) = Lex.down l p := by rw [Lex.down, if_pos h]
theorem down_yes {l : List UInt8} {p m : Nat} (h : Lex.skip l (p + 1) = false) (hm : Lex.kind (l.take (p + 1)) = m) : Lex.down l (p + 1) = (m, p + 1) := by rw [Lex.down, if_neg (by rw [h]; simp), hm]
theorem skip_eq {l : List UInt8} {p m : Nat} {c : UInt8} (hm : Lex.kind (l.take (p + 1)) = m) (hp : p < l.length) (hc : l[p] = c) : Lex.skip l (p + 1) = decide (m = 0 ∨ (m = 1 ∧ c.toNat = 46 ∧ l[p + 1]? = some 46)) := by
  rw [Lex.skip, hm, show p + 1 - 1 = p by omega, List.getElem?_eq_getElem hp, hc, decide_eq_decide, Option.some.injEq, Lex.b46]

set_option maxHeartbeats 2000000 in
theorem rfirst_any (l : List UInt8) (kd n : Nat) (hf : Lex.first l = (kd, n)) (w : World) (h1 : 1 ≤ l.length) (hl : l.length ≤ 100000) : Calls Try.prog 34 #[.string (bstr l)] w fun e w' => e = .returned (.tuple #[.int .i64 (kd : Nat), .int .i64 (n : Nat)]) ∧ w = w' := by
  have HF := Lib.hid hf
  clear hf
  by_cases h3 : l.take 3 = [46, 46, 46]
  · have hl3 : 3 ≤ l.length := by have := congrArg List.length h3; rw [List.length_take] at this; simp at this; omega
    have g3 : decide ((3 : Int) ≤ l.length) = true := decide_eq_true (by omega)
    have q3 : (l.take 3 == [46, 46, 46]) = true := beq_iff_eq.2 h3
    have HZ : Hid ((6, 3) = (kd, n)) := Lib.hid (by rw [← HF.out, Lex.first, if_pos h3])
    clear HF
    go_enter Try.func34, Try.ntmps34
    go_wp2_with fail
    go_ret2
    have h := HZ.out
    injection h with e1 e2
    exact ⟨by rw [← e1, ← e2]; rfl, rfl⟩
  · have q3 : (l.take 3 == [46, 46, 46]) = false := beq_eq_false_iff_ne.2 h3
    have q3' : decide (l.take 3 = [46, 46, 46]) = false := decide_eq_false h3
    by_cases h2 : l.take 2 = [46, 46]
    · have hl2 : 2 ≤ l.length := by have := congrArg List.length h2; rw [List.length_take] at this; simp at this; omega
      have g2 : decide ((2 : Int) ≤ l.length) = true := decide_eq_true (by omega)
      have q2 : (l.take 2 == [46, 46]) = true := beq_iff_eq.2 h2
      have HZ : Hid ((5, 2) = (kd, n)) := Lib.hid (by rw [← HF.out, Lex.first, if_neg h3, if_pos h2])
      clear HF
      by_cases g : (3 : Int) ≤ l.length
      · have g3 := decide_eq_true g
        go_enter Try.func34, Try.ntmps34
        go_wp2_with fail
        go_ret2
        have h := HZ.out
        injection h with e1 e2
        exact ⟨by rw [← e1, ← e2]; rfl, rfl⟩
      · have g3 := decide_eq_false g
        go_enter Try.func34, Try.ntmps34
        go_wp2_with fail
        go_ret2
        have h := HZ.out
        injection h with e1 e2
        exact ⟨by rw [← e1, ← e2]; rfl, rfl⟩
    · have q2 : (l.take 2 == [46, 46]) = false := beq_eq_false_iff_ne.2 h2
      have q2' : decide (l.take 2 = [46, 46]) = false := decide_eq_false h2
      have HR : Hid (Lex.down l l.length = (kd, n)) := Lib.hid (by rw [← HF.out, Lex.first, if_neg h3, if_neg h2])
      clear HF h3 h2
      by_cases ga : (3 : Int) ≤ l.length
      · have g3 := decide_eq_true ga
        have g2 : decide ((2 : Int) ≤ l.length) = true := decide_eq_true (by omega)
        go_enter Try.func34, Try.ntmps34
        go_wp2_with fail
        go_loop [4] (fun i => ∃ (k : Nat), k ≤ l.length ∧ i = .int .i64 k ∧ Hid (Lex.down l k = (kd, n))) (fun i => (intOf i).toNat)
        case atStart => exact ⟨l.length, by omega, rfl, HR⟩
        case round =>
          obtain ⟨k, hk, rfl, HT⟩ := hrel
          cases k with
          | zero =>
            have HZ : Hid ((0, 0) = (kd, n)) := Lib.hid HT.out
            go_wp2_with fail
            go_ret2
            have h := HZ.out
            injection h with e1 e2
            exact ⟨by rw [← e1, ← e2]; rfl, rfl⟩
          | succ p =>
            obtain ⟨m, hm⟩ : ∃ m, Lex.kind (l.take (p + 1)) = m := ⟨_, rfl⟩
            have HK := Lib.hid (fun u => rkind_any _ m hm u (by simp; omega) (by simp; omega))
            obtain ⟨c, hc⟩ : ∃ c, l[p] = c := ⟨_, rfl⟩
            have HS := Lib.hid (skip_eq hm (by omega) hc)
            have HN : Hid (Lex.skip l (p + 1) = true → Lex.down l p = (kd, n)) := Lib.hid fun h => by rw [← HT.out, down_no h]
            have HY : Hid (Lex.skip l (p + 1) = false → (m, p + 1) = (kd, n)) := Lib.hid fun h => by rw [← HT.out, down_yes h hm]
            clear hm
            by_cases h0 : m = 0
            · have HZ := Lib.hid (HN.out (by rw [HS.out]; simp [h0]))
              have z0 : ((m : Int) == 0) = true := by simp [h0]
              clear h0
              go_wp2_with (go_at_call 38; go_must (refine (HK.out _).mono ?_; rintro e w' ⟨rfl, rfl⟩))
              go_round
              case rel => exact ⟨p, by omega, by go_num, HZ⟩
              case measure => simp [intOf] <;> omega
            · have z0 : ((m : Int) == 0) = false := by simp [h0]
              by_cases h1' : m = 1
              · have z1 : ((m : Int) == 1) = true := by simp [h1']
                by_cases h46 : c.toNat = 46
                · have d46 : ((c.toNat : Int) == 46) = true := byte_is c h46
                  by_cases hlt : p + 1 < l.length
                  · have hlt' : (p : Int) + 1 < l.length := by omega
                    have glt : decide ((p : Int) + 1 < l.length) = true := decide_eq_true hlt'
                    obtain ⟨d, hd⟩ : ∃ c, l[p + 1] = c := ⟨_, rfl⟩
                    have HD : Hid (l[p + 1]? = some d) := Lib.hid (by rw [List.getElem?_eq_getElem hlt, hd])
                    by_cases e46 : d.toNat = 46
                    · have f46 : ((d.toNat : Int) == 46) = true := byte_is d e46
                      have HZ := Lib.hid (HN.out (by rw [HS.out, HD.out]; simp [h1', h46, Lex.b46, e46]))
                      clear h0 h1' h46 e46
                      go_wp2_with (go_at_call 38; go_must (refine (HK.out _).mono ?_; rintro e w' ⟨rfl, rfl⟩))
                      go_round
                      case rel => exact ⟨p, by omega, by go_num, HZ⟩
                      case measure => simp [intOf] <;> omega
                    · have f46 : ((d.toNat : Int) == 46) = false := byte_not d e46
                      have HZ := Lib.hid (HY.out (by rw [HS.out, HD.out]; simp [h1', Lex.b46, e46]))
                      clear h0 h1' h46 e46
                      go_wp2_with (go_at_call 38; go_must (refine (HK.out _).mono ?_; rintro e w' ⟨rfl, rfl⟩))
                      go_ret2
                      have h := HZ.out
                      injection h with e1 e2
                      exact ⟨by rw [← e1, ← e2]; rfl, rfl⟩
                  · have hlt' : ¬ (p : Int) + 1 < l.length := by omega
                    have glt : decide ((p : Int) + 1 < l.length) = false := decide_eq_false hlt'
                    have HZ := Lib.hid (HY.out (by rw [HS.out, List.getElem?_eq_none (by omega)]; simp [h1']))
                    clear h0 h1' h46
                    go_wp2_with (go_at_call 38; go_must (refine (HK.out _).mono ?_; rintro e w' ⟨rfl, rfl⟩))
                    go_ret2
                    have h := HZ.out
                    injection h with e1 e2
                    exact ⟨by rw [← e1, ← e2]; rfl, rfl⟩
                · have d46 : ((c.toNat : Int) == 46) = false := byte_not c h46
                  have HZ := Lib.hid (HY.out (by rw [HS.out]; simp [h1', h46]))
                  clear h0 h1' h46
                  go_wp2_with (go_at_call 38; go_must (refine (HK.out _).mono ?_; rintro e w' ⟨rfl, rfl⟩))
                  go_ret2
                  have h := HZ.out
                  injection h with e1 e2
                  exact ⟨by rw [← e1, ← e2]; rfl, rfl⟩
              · have z1 : ((m : Int) == 1) = false := by rw [beq_eq_false_iff_ne]; omega
                have HZ := Lib.hid (HY.out (by rw [HS.out]; simp [h1', h0]))
                clear h0 h1'
                go_wp2_with (go_at_call 38; go_must (refine (HK.out _).mono ?_; rintro e w' ⟨rfl, rfl⟩))
                go_ret2
                have h := HZ.out
                injection h with e1 e2
                exact ⟨by rw [← e1, ← e2]; rfl, rfl⟩
      · have g3 := decide_eq_false ga
        by_cases gb : (2 : Int) ≤ l.length
        · have g2 := decide_eq_true gb
          go_enter Try.func34, Try.ntmps34
          go_wp2_with fail
          go_loop [4] (fun i => ∃ (k : Nat), k ≤ l.length ∧ i = .int .i64 k ∧ Hid (Lex.down l k = (kd, n))) (fun i => (intOf i).toNat)
          case atStart => exact ⟨l.length, by omega, rfl, HR⟩
          case round =>
            obtain ⟨k, hk, rfl, HT⟩ := hrel
            cases k with
            | zero =>
              have HZ : Hid ((0, 0) = (kd, n)) := Lib.hid HT.out
              go_wp2_with fail
              go_ret2
              have h := HZ.out
              injection h with e1 e2
              exact ⟨by rw [← e1, ← e2]; rfl, rfl⟩
            | succ p =>
              obtain ⟨m, hm⟩ : ∃ m, Lex.kind (l.take (p + 1)) = m := ⟨_, rfl⟩
              have HK := Lib.hid (fun u => rkind_any _ m hm u (by simp; omega) (by simp; omega))
              obtain ⟨c, hc⟩ : ∃ c, l[p] = c := ⟨_, rfl⟩
              have HS := Lib.hid (skip_eq hm (by omega) hc)
              have HN : Hid (Lex.skip l (p + 1) = true → Lex.down l p = (kd, n)) := Lib.hid fun h => by rw [← HT.out, down_no h]
              have HY : Hid (Lex.skip l (p + 1) = false → (m, p + 1) = (kd, n)) := Lib.hid fun h => by rw [← HT.out, down_yes h hm]
              clear hm
              by_cases h0 : m = 0
              · have HZ := Lib.hid (HN.out (by rw [HS.out]; simp [h0]))
                have z0 : ((m : Int) == 0) = true := by simp [h0]
                clear h0
                go_wp2_with (go_at_call 38; go_must (refine (HK.out _).mono ?_; rintro e w' ⟨rfl, rfl⟩))
                go_round
                case rel => exact ⟨p, by omega, by go_num, HZ⟩
                case measure => simp [intOf] <;> omega
              · have z0 : ((m : Int) == 0) = false := by simp [h0]
                by_cases h1' : m = 1
                · have z1 : ((m : Int) == 1) = true := by simp [h1']
                  by_cases h46 : c.toNat = 46
                  · have d46 : ((c.toNat : Int) == 46) = true := byte_is c h46
                    by_cases hlt : p + 1 < l.length
                    · have hlt' : (p : Int) + 1 < l.length := by omega
                      have glt : decide ((p : Int) + 1 < l.length) = true := decide_eq_true hlt'
                      obtain ⟨d, hd⟩ : ∃ c, l[p + 1] = c := ⟨_, rfl⟩
                      have HD : Hid (l[p + 1]? = some d) := Lib.hid (by rw [List.getElem?_eq_getElem hlt, hd])
                      by_cases e46 : d.toNat = 46
                      · have f46 : ((d.toNat : Int) == 46) = true := byte_is d e46
                        have HZ := Lib.hid (HN.out (by rw [HS.out, HD.out]; simp [h1', h46, Lex.b46, e46]))
                        clear h0 h1' h46 e46
                        go_wp2_with (go_at_call 38; go_must (refine (HK.out _).mono ?_; rintro e w' ⟨rfl, rfl⟩))
                        go_round
                        case rel => exact ⟨p, by omega, by go_num, HZ⟩
                        case measure => simp [intOf] <;> omega
                      · have f46 : ((d.toNat : Int) == 46) = false := byte_not d e46
                        have HZ := Lib.hid (HY.out (by rw [HS.out, HD.out]; simp [h1', Lex.b46, e46]))
                        clear h0 h1' h46 e46
                        go_wp2_with (go_at_call 38; go_must (refine (HK.out _).mono ?_; rintro e w' ⟨rfl, rfl⟩))
                        go_ret2
                        have h := HZ.out
                        injection h with e1 e2
                        exact ⟨by rw [← e1, ← e2]; rfl, rfl⟩
                    · have hlt' : ¬ (p : Int) + 1 < l.length := by omega
                      have glt : decide ((p : Int) + 1 < l.length) = false := decide_eq_false hlt'
                      have HZ := Lib.hid (HY.out (by rw [HS.out, List.getElem?_eq_none (by omega)]; simp [h1']))
                      clear h0 h1' h46
                      go_wp2_with (go_at_call 38; go_must (refine (HK.out _).mono ?_; rintro e w' ⟨rfl, rfl⟩))
                      go_ret2
                      have h := HZ.out
                      injection h with e1 e2
                      exact ⟨by rw [← e1, ← e2]; rfl, rfl⟩
                  · have d46 : ((c.toNat : Int) == 46) = false := byte_not c h46
                    have HZ := Lib.hid (HY.out (by rw [HS.out]; simp [h1', h46]))
                    clear h0 h1' h46
                    go_wp2_with (go_at_call 38; go_must (refine (HK.out _).mono ?_; rintro e w' ⟨rfl, rfl⟩))
                    go_ret2
                    have h := HZ.out
                    injection h with e1 e2
                    exact ⟨by rw [← e1, ← e2]; rfl, rfl⟩
                · have z1 : ((m : Int) == 1) = false := by rw [beq_eq_false_iff_ne]; omega
                  have HZ := Lib.hid (HY.out (by rw [HS.out]; simp [h1', h0]))
                  clear h0 h1'
                  go_wp2_with (go_at_call 38; go_must (refine (HK.out _).mono ?_; rintro e w' ⟨rfl, rfl⟩))
                  go_ret2
                  have h := HZ.out
                  injection h with e1 e2
                  exact ⟨by rw [← e1, ← e2]; rfl, rfl⟩
        · have g2 := decide_eq_false gb
          go_enter Try.func34, Try.ntmps34
          go_wp2_with fail
          go_loop [4] (fun i => ∃ (k : Nat), k ≤ l.length ∧ i = .int .i64 k ∧ Hid (Lex.down l k = (kd, n))) (fun i => (intOf i).toNat)
          case atStart => exact ⟨l.length, by omega, rfl, HR⟩
          case round =>
            obtain ⟨k, hk, rfl, HT⟩ := hrel
            cases k with
            | zero =>
              have HZ : Hid ((0, 0) = (kd, n)) := Lib.hid HT.out
              go_wp2_with fail
              go_ret2
              have h := HZ.out
              injection h with e1 e2
              exact ⟨by rw [← e1, ← e2]; rfl, rfl⟩
            | succ p =>
              obtain ⟨m, hm⟩ : ∃ m, Lex.kind (l.take (p + 1)) = m := ⟨_, rfl⟩
              have HK := Lib.hid (fun u => rkind_any _ m hm u (by simp; omega) (by simp; omega))
              obtain ⟨c, hc⟩ : ∃ c, l[p] = c := ⟨_, rfl⟩
              have HS := Lib.hid (skip_eq hm (by omega) hc)
              have HN : Hid (Lex.skip l (p + 1) = true → Lex.down l p = (kd, n)) := Lib.hid fun h => by rw [← HT.out, down_no h]
              have HY : Hid (Lex.skip l (p + 1) = false → (m, p + 1) = (kd, n)) := Lib.hid fun h => by rw [← HT.out, down_yes h hm]
              clear hm
              by_cases h0 : m = 0
              · have HZ := Lib.hid (HN.out (by rw [HS.out]; simp [h0]))
                have z0 : ((m : Int) == 0) = true := by simp [h0]
                clear h0
                go_wp2_with (go_at_call 38; go_must (refine (HK.out _).mono ?_; rintro e w' ⟨rfl, rfl⟩))
                go_round
                case rel => exact ⟨p, by omega, by go_num, HZ⟩
                case measure => simp [intOf] <;> omega
              · have z0 : ((m : Int) == 0) = false := by simp [h0]
                by_cases h1' : m = 1
                · have z1 : ((m : Int) == 1) = true := by simp [h1']
                  by_cases h46 : c.toNat = 46
                  · have d46 : ((c.toNat : Int) == 46) = true := byte_is c h46
                    by_cases hlt : p + 1 < l.length
                    · have hlt' : (p : Int) + 1 < l.length := by omega
                      have glt : decide ((p : Int) + 1 < l.length) = true := decide_eq_true hlt'
                      obtain ⟨d, hd⟩ : ∃ c, l[p + 1] = c := ⟨_, rfl⟩
                      have HD : Hid (l[p + 1]? = some d) := Lib.hid (by rw [List.getElem?_eq_getElem hlt, hd])
                      by_cases e46 : d.toNat = 46
                      · have f46 : ((d.toNat : Int) == 46) = true := byte_is d e46
                        have HZ := Lib.hid (HN.out (by rw [HS.out, HD.out]; simp [h1', h46, Lex.b46, e46]))
                        clear h0 h1' h46 e46
                        go_wp2_with (go_at_call 38; go_must (refine (HK.out _).mono ?_; rintro e w' ⟨rfl, rfl⟩))
                        go_round
                        case rel => exact ⟨p, by omega, by go_num, HZ⟩
                        case measure => simp [intOf] <;> omega
                      · have f46 : ((d.toNat : Int) == 46) = false := byte_not d e46
                        have HZ := Lib.hid (HY.out (by rw [HS.out, HD.out]; simp [h1', Lex.b46, e46]))
                        clear h0 h1' h46 e46
                        go_wp2_with (go_at_call 38; go_must (refine (HK.out _).mono ?_; rintro e w' ⟨rfl, rfl⟩))
                        go_ret2
                        have h := HZ.out
                        injection h with e1 e2
                        exact ⟨by rw [← e1, ← e2]; rfl, rfl⟩
                    · have hlt' : ¬ (p : Int) + 1 < l.length := by omega
                      have glt : decide ((p : Int) + 1 < l.length) = false := decide_eq_false hlt'
                      have HZ := Lib.hid (HY.out (by rw [HS.out, List.getElem?_eq_none (by omega)]; simp [h1']))
                      clear h0 h1' h46
                      go_wp2_with (go_at_call 38; go_must (refine (HK.out _).mono ?_; rintro e w' ⟨rfl, rfl⟩))
                      go_ret2
                      have h := HZ.out
                      injection h with e1 e2
                      exact ⟨by rw [← e1, ← e2]; rfl, rfl⟩
                  · have d46 : ((c.toNat : Int) == 46) = false := byte_not c h46
                    have HZ := Lib.hid (HY.out (by rw [HS.out]; simp [h1', h46]))
                    clear h0 h1' h46
                    go_wp2_with (go_at_call 38; go_must (refine (HK.out _).mono ?_; rintro e w' ⟨rfl, rfl⟩))
                    go_ret2
                    have h := HZ.out
                    injection h with e1 e2
                    exact ⟨by rw [← e1, ← e2]; rfl, rfl⟩
                · have z1 : ((m : Int) == 1) = false := by rw [beq_eq_false_iff_ne]; omega
                  have HZ := Lib.hid (HY.out (by rw [HS.out]; simp [h1', h0]))
                  clear h0 h1'
                  go_wp2_with (go_at_call 38; go_must (refine (HK.out _).mono ?_; rintro e w' ⟨rfl, rfl⟩))
                  go_ret2
                  have h := HZ.out
                  injection h with e1 e2
                  exact ⟨by rw [← e1, ← e2]; rfl, rfl⟩
end Go.Proofs.Ytolahnnkdpbdfaa
