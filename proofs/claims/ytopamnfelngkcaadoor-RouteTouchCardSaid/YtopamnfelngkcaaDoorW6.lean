/-
  Layer 5: does a word stand for a part? No condition besides what the arguments are.
-/
import Derived.Test.YtopamnfelngkcaaDoorW5
import Derived.WalkMore
namespace Go.Proofs.YtopamnfelngkcaaDoor
open Go.RowKit Go.Sl Go.Route
set_option linter.unusedVariables false

theorem byte_eq {c d : UInt8} (h : c = d) : ((c.toNat : Int) == (d.toNat : Int)) = true := by simp [h]
theorem byte_ne {c d : UInt8} (h : c ≠ d) : ((c.toNat : Int) == (d.toNat : Int)) = false := by
  rw [beq_eq_false_iff_ne]; intro e; exact h (UInt8.toNat_inj.1 (by omega))
theorem byte_neN {c d : UInt8} (h : c ≠ d) : (c.toNat == d.toNat) = false := by
  rw [beq_eq_false_iff_ne]; intro e; exact h (UInt8.toNat_inj.1 e)
theorem byte_neP {c d : UInt8} (h : c ≠ d) : ¬ (c.toNat : Int) = (d.toNat : Int) := by
  intro e; exact h (UInt8.toNat_inj.1 (by omega))
theorem wmeas (a b c a' b' c' : Nat) (h : a < a' ∨ (a = a' ∧ b < b') ∨ (a = a' ∧ b = b' ∧ c < c')) (hb : b ≤ 1000) (hc : c ≤ 1000) : a * 1002001 + b * 1001 + c < a' * 1002001 + b' * 1001 + c' := by omega

set_option maxRecDepth 100000 in
set_option maxHeartbeats 2000000 in
theorem word_any (wd s : List UInt8) (w : World) (hw : wd.length ≤ 1000) (hs : s.length ≤ 1000) :
    Calls Tryd.prog 111 #[.string (bstr wd), .string (bstr s)] w fun e w' => e = .returned (.bool (glob wd s)) ∧ ∃ n, w' = w.drewN n := by
  go_enter Tryd.func111, Tryd.ntmps111
  go_wp2_with fail
  go_step3
  go_wp2_with fail
  go_step3
  go_wp2_with fail
  go_loopw [5, 6, 7, 8] (fun a b c d wr => ∃ (i k fr : Nat) (st : Int), a = .int .i64 i ∧ b = .int .i64 k ∧ c = .int .i64 st ∧ d = .int .i64 fr ∧ i ≤ wd.length ∧ k ≤ s.length ∧ fr ≤ s.length ∧ -1 ≤ st ∧ st < i ∧ Hid (WInv wd s i k st fr) ∧ ∃ n, Hid (wr = w.drewN n)) (fun _ b c d _ => (1001 - (intOf c + 1).toNat) * 1002001 + (1000 - (intOf d).toNat) * 1001 + (1000 - (intOf b).toNat))
  case atStart => exact ⟨0, 0, 0, -1, rfl, rfl, rfl, rfl, by omega, by omega, by omega, by omega, by omega, Lib.hid (WInv.start _ _), 0, Lib.hid rfl⟩
  case round =>
    obtain ⟨i, k, fr, st, rfl, rfl, rfl, rfl, hi, hk, hfr, hs1, hs2, HI, n, HW⟩ := hrel
    obtain rfl := HW.out
    clear HW
    by_cases hk2 : k < s.length
    · by_cases hi2 : i < wd.length
      · by_cases h42 : wd[i] = 42
        · have HI2 := Lib.hid (HI.out.star hi2 h42)
          have c1 : ((wd[i].toNat : Int) == 42) = true := by rw [h42]; rfl
          have c2 : (wd[i].toNat : Int) = 42 := by rw [h42]; rfl
          clear h42
          go_wp2_with fail
          go_roundw
          case rel => exact ⟨i + 1, k, k, i, by go_num, rfl, rfl, rfl, by omega, by omega, by omega, by omega, by omega, HI2, _, Lib.hid rfl⟩
          case measure => simp only [intOf]; exact wmeas _ _ _ _ _ _ (.inl (by omega)) (by omega) (by omega)
        · have HN1 : Hid (∀ h : i < wd.length, wd[i] ≠ 42) := Lib.hid (fun _ => h42)
          have c1 : ((wd[i].toNat : Int) == 42) = false := byte_ne (d := 42) h42
          have c2 : ¬ (wd[i].toNat : Int) = 42 := byte_neP (d := 42) h42
          by_cases h63 : wd[i] = 63
          · have HI2 := Lib.hid (HI.out.lit hi2 hk2 h42 (.inl h63))
            have c3 : ((wd[i].toNat : Int) == 63) = true := by rw [h63]; rfl
            have c4 : (wd[i].toNat : Int) = 63 := by rw [h63]; rfl
            clear h42 h63 c2
            go_wp2_with fail
            go_quiet (fail)
            go_wp2_with fail
            go_roundw
            case rel => exact ⟨i + 1, k + 1, fr, st, by go_num, by go_num, rfl, rfl, by omega, by omega, by omega, by omega, by omega, HI2, _, Lib.hid rfl⟩
            case measure => simp only [intOf]; exact wmeas _ _ _ _ _ _ (.inr (.inr ⟨rfl, rfl, by omega⟩)) (by omega) (by omega)
          · have c3 : ((wd[i].toNat : Int) == 63) = false := byte_ne (d := 63) h63
            have c4 : ¬ (wd[i].toNat : Int) = 63 := byte_neP (d := 63) h63
            by_cases heq : wd[i] = s[k]
            · have HI2 := Lib.hid (HI.out.lit hi2 hk2 h42 (.inr heq))
              have c5 : ((wd[i].toNat : Int) == (s[k].toNat : Int)) = true := byte_eq heq
              have c6 : (wd[i].toNat == s[k].toNat) = true := by rw [heq]; simp
              clear h42 h63 heq
              go_wp2_with fail
              go_quiet (fail)
              go_wp2_with fail
              go_roundw
              case rel => exact ⟨i + 1, k + 1, fr, st, by go_num, by go_num, rfl, rfl, by omega, by omega, by omega, by omega, by omega, HI2, _, Lib.hid rfl⟩
              case measure => simp only [intOf]; exact wmeas _ _ _ _ _ _ (.inr (.inr ⟨rfl, rfl, by omega⟩)) (by omega) (by omega)
            · have HN2 : Hid (∀ h : i < wd.length, ¬ (wd[i] = 63 ∨ wd[i] = s[k])) := Lib.hid (fun _ h => h.elim h63 heq)
              have c5 : ((wd[i].toNat : Int) == (s[k].toNat : Int)) = false := byte_ne heq
              have c6 : (wd[i].toNat == s[k].toNat) = false := byte_neN heq
              clear h42 h63 heq
              by_cases hst : 0 ≤ st
              · have d3 : decide (0 ≤ st) = true := decide_eq_true hst
                obtain ⟨p, rfl⟩ : ∃ p : Nat, st = p := ⟨st.toNat, by omega⟩
                obtain ⟨g1, g2, g3, g4⟩ := HI.out.back hk2 HN1.out HN2.out
                have HI2 := Lib.hid g4
                have hst2 : (p : Int) < ((p + 1 : Nat) : Int) := by omega
                clear hst g4
                go_wp2_with fail
                go_quiet (fail)
                go_wp2_with fail
                go_roundw
                case rel => exact ⟨p + 1, fr + 1, fr + 1, p, by go_num, by go_num, rfl, by go_num, by omega, by omega, by omega, by omega, by omega, HI2, _, Lib.hid rfl⟩
                case measure => simp only [intOf]; exact wmeas _ _ _ _ _ _ (.inr (.inl ⟨rfl, by omega⟩)) (by omega) (by omega)
              · have d3 : decide (0 ≤ st) = false := decide_eq_false hst
                obtain rfl : st = -1 := by omega
                have HZ := Lib.hid (HI.out.none hk2 HN1.out HN2.out)
                clear hst
                go_wp2_with fail
                go_quiet (fail)
                go_wp2_with fail
                (first | go_ret | (rw [Exit.noGoto_ret]; go_ret))
                exact ⟨ret_bool HZ.out.symm, _, rfl⟩
      · have HN1 : Hid (∀ h : i < wd.length, wd[i] ≠ 42) := Lib.hid (fun h => absurd h hi2)
        have HN2 : Hid (∀ h : i < wd.length, ¬ (wd[i] = 63 ∨ wd[i] = s[k])) := Lib.hid (fun h => absurd h hi2)
        have d1 : decide (i < wd.length) = false := decide_eq_false hi2
        by_cases hst : 0 ≤ st
        · have d3 : decide (0 ≤ st) = true := decide_eq_true hst
          obtain ⟨p, rfl⟩ : ∃ p : Nat, st = p := ⟨st.toNat, by omega⟩
          obtain ⟨g1, g2, g3, g4⟩ := HI.out.back hk2 HN1.out HN2.out
          have HI2 := Lib.hid g4
          have hst2 : (p : Int) < ((p + 1 : Nat) : Int) := by omega
          clear hst g4
          go_wp2_with fail
          go_quiet (fail)
          go_wp2_with fail
          go_roundw
          case rel => exact ⟨p + 1, fr + 1, fr + 1, p, by go_num, by go_num, rfl, by go_num, by omega, by omega, by omega, by omega, by omega, HI2, _, Lib.hid rfl⟩
          case measure => simp only [intOf]; exact wmeas _ _ _ _ _ _ (.inr (.inl ⟨rfl, by omega⟩)) (by omega) (by omega)
        · have d3 : decide (0 ≤ st) = false := decide_eq_false hst
          obtain rfl : st = -1 := by omega
          have HZ := Lib.hid (HI.out.none hk2 HN1.out HN2.out)
          clear hst
          go_wp2_with fail
          go_quiet (fail)
          go_wp2_with fail
          (first | go_ret | (rw [Exit.noGoto_ret]; go_ret))
          exact ⟨ret_bool HZ.out.symm, _, rfl⟩
    · have HE := Lib.hid (HI.out.over (by omega))
      go_wp2_with fail
      go_loopw [5] (fun a wr => ∃ (j : Nat), a = .int .i64 j ∧ j ≤ wd.length ∧ Hid (glob wd s = (wd.drop j).all (fun c => decide (c = 42))) ∧ ∃ n, Hid (wr = w.drewN n)) (fun a _ => wd.length - (intOf a).toNat)
      case atStart => exact ⟨i, rfl, hi, HE, _, Lib.hid rfl⟩
      case round =>
        obtain ⟨j, rfl, hj, HJ, n2, HW⟩ := hrel
        obtain rfl := HW.out
        clear HW
        by_cases hj2 : j < wd.length
        · by_cases h42 : wd[j] = 42
          · have HJ2 : Hid (glob wd s = (wd.drop (j + 1)).all (fun c => decide (c = 42))) := Lib.hid (by rw [HJ.out, Route.drop_cons hj2, List.all_cons, h42]; rfl)
            have c1 : ((wd[j].toNat : Int) == 42) = true := by rw [h42]; rfl
            have c2 : (wd[j].toNat : Int) = 42 := by rw [h42]; rfl
            clear h42
            go_wp2_with fail
            go_roundw
            case rel => exact ⟨j + 1, by go_num, by omega, HJ2, _, Lib.hid rfl⟩
            case measure => simp [intOf]; omega
          · have HZ : Hid (false = glob wd s) := Lib.hid (by rw [HJ.out, Route.drop_cons hj2, List.all_cons, decide_eq_false h42]; rfl)
            have c1 : ((wd[j].toNat : Int) == 42) = false := byte_ne (d := 42) h42
            have c2 : ¬ (wd[j].toNat : Int) = 42 := byte_neP (d := 42) h42
            have c7 : ((j : Int) == (wd.length : Int)) = false := by rw [beq_eq_false_iff_ne]; omega
            have c8 : (j == wd.length) = false := by rw [beq_eq_false_iff_ne]; omega
            clear h42
            go_wp2_with fail
            (first | go_ret | (rw [Exit.noGoto_ret]; go_ret))
            exact ⟨ret_bool HZ.out, _, rfl⟩
        · have HZ : Hid (true = glob wd s) := Lib.hid (by rw [HJ.out, List.drop_eq_nil_of_le (by omega)]; rfl)
          obtain rfl : j = wd.length := by omega
          go_wp2_with fail
          (first | go_ret | (rw [Exit.noGoto_ret]; go_ret))
          exact ⟨ret_bool HZ.out, _, rfl⟩
end Go.Proofs.YtopamnfelngkcaaDoor
