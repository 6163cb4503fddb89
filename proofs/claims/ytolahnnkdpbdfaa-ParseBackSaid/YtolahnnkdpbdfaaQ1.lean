/-
  Walks of layer 27: the reference's letters, digits, blanks. No condition.
-/
import Derived.Test.YtolahnnkdpbdfaaL8
import Derived.Test.YtolahnnkdpbdfaaR3
namespace Go.Proofs.Ytolahnnkdpbdfaa
open Go.RowKit Go.Sl

theorem all_step {p : UInt8 → Bool} {l : List UInt8} {k : Nat} {c : UInt8} (hk : k < l.length) (hc : l[k] = c) : (l.drop k).all p = (p c && (l.drop (k + 1)).all p) := by
  rw [List.drop_eq_getElem_cons hk, List.all_cons, hc]

set_option maxHeartbeats 1000000 in
theorem rletters_any (l : List UInt8) (t : Bool) (ht : l.all Lex.letter = t) (w : World) (hl : l.length ≤ 9223372036854775807) : Calls Try.prog 67 #[.string (bstr l)] w fun e w' => e = .returned (.bool t) ∧ w = w' := by
  have HR := Lib.hid ht
  clear ht
  go_enter Try.func67, Try.ntmps67
  go_wp2_with fail
  go_loop [3] (fun i => ∃ (k : Nat), k ≤ l.length ∧ i = .int .i64 k ∧ Hid (l.all Lex.letter = (l.drop k).all Lex.letter)) (fun i => l.length - (intOf i).toNat)
  case atStart => exact ⟨0, by omega, rfl, Lib.hid (by simp)⟩
  case round =>
    obtain ⟨k, hk, rfl, HT⟩ := hrel
    by_cases hlt : k < l.length
    · obtain ⟨c, hc⟩ : ∃ c, l[k] = c := ⟨_, rfl⟩
      have HY : Hid (Lex.letter c = true → l.all Lex.letter = (l.drop (k + 1)).all Lex.letter) := Lib.hid fun hp => by rw [HT.out, all_step hlt hc, hp, Bool.true_and]
      have HN : Hid (Lex.letter c = false → t = false) := Lib.hid fun hp => by rw [← HR.out, HT.out, all_step hlt hc, hp, Bool.false_and]
      by_cases h0 : 97 ≤ c.toNat ∧ c.toNat ≤ 122
      · have HZ := Lib.hid (HY.out (by unfold Lex.letter; simp; omega))
        have hd0 : decide ((97 : Int) ≤ (c.toNat : Int)) = true := by simp; omega
        have hd1 : decide ((c.toNat : Int) ≤ (122 : Int)) = true := by simp; omega
        go_wp2_with fail
        go_round
        case rel => exact ⟨k + 1, by omega, by go_num, HZ⟩
        case measure => simp [intOf]; omega
      by_cases h1 : 65 ≤ c.toNat ∧ c.toNat ≤ 90
      · have HZ := Lib.hid (HY.out (by unfold Lex.letter; simp; omega))
        have hd0 : decide ((97 : Int) ≤ (c.toNat : Int)) = false := by simp; omega
        have hd1 : decide ((65 : Int) ≤ (c.toNat : Int)) = true := by simp; omega
        have hd2 : decide ((c.toNat : Int) ≤ (90 : Int)) = true := by simp; omega
        go_wp2_with fail
        go_round
        case rel => exact ⟨k + 1, by omega, by go_num, HZ⟩
        case measure => simp [intOf]; omega
      by_cases h2 : c.toNat < 65
      · have HZ := Lib.hid (HN.out (by unfold Lex.letter; simp; omega))
        have hd0 : decide ((97 : Int) ≤ (c.toNat : Int)) = false := by simp; omega
        have hd1 : decide ((65 : Int) ≤ (c.toNat : Int)) = false := by simp; omega
        go_wp2_with fail
        go_ret
        exact ⟨ret_bool HZ.out.symm, rfl⟩
      by_cases h3 : c.toNat < 97
      · have HZ := Lib.hid (HN.out (by unfold Lex.letter; simp; omega))
        have hd0 : decide ((97 : Int) ≤ (c.toNat : Int)) = false := by simp; omega
        have hd1 : decide ((65 : Int) ≤ (c.toNat : Int)) = true := by simp; omega
        have hd2 : decide ((c.toNat : Int) ≤ (90 : Int)) = false := by simp; omega
        go_wp2_with fail
        go_ret
        exact ⟨ret_bool HZ.out.symm, rfl⟩
      have HZ := Lib.hid (HN.out (by unfold Lex.letter; simp; omega))
      have hd0 : decide ((97 : Int) ≤ (c.toNat : Int)) = true := by simp; omega
      have hd1 : decide ((c.toNat : Int) ≤ (122 : Int)) = false := by simp; omega
      have hd2 : decide ((65 : Int) ≤ (c.toNat : Int)) = true := by simp; omega
      have hd3 : decide ((c.toNat : Int) ≤ (90 : Int)) = false := by simp; omega
      go_wp2_with fail
      go_ret
      exact ⟨ret_bool HZ.out.symm, rfl⟩
    · have HE : Hid (t = true) := Lib.hid (by rw [← HR.out, HT.out, List.drop_eq_nil_of_le (by omega)]; rfl)
      go_wp2_with fail
      go_ret
      exact ⟨ret_bool HE.out.symm, rfl⟩

set_option maxHeartbeats 1000000 in
theorem rdigits_any (l : List UInt8) (t : Bool) (ht : l.all Lex.digit = t) (w : World) (hl : l.length ≤ 9223372036854775807) : Calls Try.prog 37 #[.string (bstr l)] w fun e w' => e = .returned (.bool t) ∧ w = w' := by
  have HR := Lib.hid ht
  clear ht
  go_enter Try.func37, Try.ntmps37
  go_wp2_with fail
  go_loop [3] (fun i => ∃ (k : Nat), k ≤ l.length ∧ i = .int .i64 k ∧ Hid (l.all Lex.digit = (l.drop k).all Lex.digit)) (fun i => l.length - (intOf i).toNat)
  case atStart => exact ⟨0, by omega, rfl, Lib.hid (by simp)⟩
  case round =>
    obtain ⟨k, hk, rfl, HT⟩ := hrel
    by_cases hlt : k < l.length
    · obtain ⟨c, hc⟩ : ∃ c, l[k] = c := ⟨_, rfl⟩
      have HY : Hid (Lex.digit c = true → l.all Lex.digit = (l.drop (k + 1)).all Lex.digit) := Lib.hid fun hp => by rw [HT.out, all_step hlt hc, hp, Bool.true_and]
      have HN : Hid (Lex.digit c = false → t = false) := Lib.hid fun hp => by rw [← HR.out, HT.out, all_step hlt hc, hp, Bool.false_and]
      by_cases h0 : 48 ≤ c.toNat ∧ c.toNat ≤ 57
      · have HZ := Lib.hid (HY.out (by unfold Lex.digit; simp; omega))
        have hd0 : decide ((c.toNat : Int) < (48 : Int)) = false := by simp; omega
        have hd1 : decide ((57 : Int) < (c.toNat : Int)) = false := by simp; omega
        go_wp2_with fail
        go_round
        case rel => exact ⟨k + 1, by omega, by go_num, HZ⟩
        case measure => simp [intOf]; omega
      by_cases h1 : c.toNat < 48
      · have HZ := Lib.hid (HN.out (by unfold Lex.digit; simp; omega))
        have hd0 : decide ((c.toNat : Int) < (48 : Int)) = true := by simp; omega
        go_wp2_with fail
        go_ret
        exact ⟨ret_bool HZ.out.symm, rfl⟩
      have HZ := Lib.hid (HN.out (by unfold Lex.digit; simp; omega))
      have hd0 : decide ((c.toNat : Int) < (48 : Int)) = false := by simp; omega
      have hd1 : decide ((57 : Int) < (c.toNat : Int)) = true := by simp; omega
      go_wp2_with fail
      go_ret
      exact ⟨ret_bool HZ.out.symm, rfl⟩
    · have HE : Hid (t = true) := Lib.hid (by rw [← HR.out, HT.out, List.drop_eq_nil_of_le (by omega)]; rfl)
      go_wp2_with fail
      go_ret
      exact ⟨ret_bool HE.out.symm, rfl⟩

set_option maxHeartbeats 1000000 in
theorem rblanks_any (l : List UInt8) (t : Bool) (ht : l.all Lex.isGap = t) (w : World) (h1 : 1 ≤ l.length) (hl : l.length ≤ 9223372036854775807) : Calls Try.prog 65 #[.string (bstr l)] w fun e w' => e = .returned (.bool t) ∧ w = w' := by
  have HR := Lib.hid ht
  clear ht
  have he : (l == []) = false := by rw [beq_eq_false_iff_ne]; intro h; subst h; simp at h1
  have he2 : l.isEmpty = false := by cases l <;> simp_all
  go_enter Try.func65, Try.ntmps65
  go_wp2_with fail
  go_loop [3] (fun i => ∃ (k : Nat), k ≤ l.length ∧ i = .int .i64 k ∧ Hid (l.all Lex.isGap = (l.drop k).all Lex.isGap)) (fun i => l.length - (intOf i).toNat)
  case atStart => exact ⟨0, by omega, rfl, Lib.hid (by simp)⟩
  case round =>
    obtain ⟨k, hk, rfl, HT⟩ := hrel
    by_cases hlt : k < l.length
    · obtain ⟨c, hc⟩ : ∃ c, l[k] = c := ⟨_, rfl⟩
      by_cases h32 : c.toNat = 32
      · have hd : ((c.toNat : Int) == 32) = true := byte_is c h32
        have hd2 : ((c.toNat : Int) != 32) = false := by rw [bne, hd]; rfl
        have HY : Hid (l.all Lex.isGap = (l.drop (k + 1)).all Lex.isGap) := Lib.hid (by rw [HT.out, all_step hlt hc, show Lex.isGap c = true by unfold Lex.isGap; simpa using h32, Bool.true_and])
        clear h32
        go_wp2_with fail
        go_round
        case rel => exact ⟨k + 1, by omega, by go_num, HY⟩
        case measure => simp [intOf]; omega
      · have hd : ((c.toNat : Int) == 32) = false := byte_not c h32
        have hd2 : ((c.toNat : Int) != 32) = true := by rw [bne, hd]; rfl
        have HN : Hid (t = false) := Lib.hid (by rw [← HR.out, HT.out, all_step hlt hc, show Lex.isGap c = false by unfold Lex.isGap; simpa using h32, Bool.false_and])
        clear h32
        go_wp2_with fail
        go_ret
        exact ⟨ret_bool HN.out.symm, rfl⟩
    · have HE : Hid (t = true) := Lib.hid (by rw [← HR.out, HT.out, List.drop_eq_nil_of_le (by omega)]; rfl)
      go_wp2_with fail
      go_ret
      exact ⟨ret_bool HE.out.symm, rfl⟩
end Go.Proofs.Ytolahnnkdpbdfaa
