/-
  Layer 12: digits as an id. No condition besides what the arguments are.
-/
import Derived.Test.YtopamnfelngkcaaDoorR14
namespace Go.Refs
open Go.Sl
/-- a letter's worth as both functions tell it -/
def wv (c : UInt8) : Int := if wth c < 16 then (wth c : Int) else -1
theorem wv_lo {c : UInt8} (h1 : 48 ≤ c.toNat) (h2 : c.toNat ≤ 57) : wv c = (c.toNat : Int) - 48 := by
  have e : wth c = c.toNat - 48 := by unfold wth; rw [if_pos ⟨h1, h2⟩]
  unfold wv; rw [e, if_pos (by omega)]; omega
theorem wv_hi {c : UInt8} (h1 : 97 ≤ c.toNat) (h2 : c.toNat ≤ 102) : wv c = (c.toNat : Int) - 97 + 10 := by
  have e : wth c = c.toNat - 87 := by unfold wth; rw [if_neg (by omega), if_pos ⟨h1, h2⟩]
  unfold wv; rw [e, if_pos (by omega)]; omega
theorem wv_no {c : UInt8} (h1 : ¬ (48 ≤ c.toNat ∧ c.toNat ≤ 57)) (h2 : ¬ (97 ≤ c.toNat ∧ c.toNat ≤ 102)) : wv c = -1 := by
  have e : wth c = 16 := by unfold wth; rw [if_neg h1, if_neg h2]
  unfold wv; rw [e]; rfl
/-- the bytes of the first k letters, as they are put down one by one -/
def prt (s : List UInt8) (k : Nat) : List UInt8 := (List.range 32).map fun m => if 2 * m + 1 < k then byt (s.getD (2 * m) 0) (s.getD (2 * m + 1) 0) else if 2 * m < k then UInt8.ofNat (wth (s.getD (2 * m) 0) * 16) else 0
theorem prt_len (s : List UInt8) (k : Nat) : (prt s k).length = 32 := by simp [prt]
theorem prt_at (s : List UInt8) (k : Nat) {m : Nat} (hm : m < 32) : (prt s k)[m]'(by rw [prt_len]; exact hm) = if 2 * m + 1 < k then byt (s.getD (2 * m) 0) (s.getD (2 * m + 1) 0) else if 2 * m < k then UInt8.ofNat (wth (s.getD (2 * m) 0) * 16) else 0 := by simp [prt]
theorem prt_zero (s : List UInt8) : prt s 0 = List.replicate 32 0 := by
  apply List.ext_getElem
  · simp [prt_len]
  · intro m h1 h2
    rw [prt_at s 0 (by rw [prt_len] at h1; exact h1), if_neg (by omega), if_neg (by omega), List.getElem_replicate]
theorem prt_even (s : List UInt8) {m : Nat} (hm : m < 32) (hs : s.length = 64) : prt s (2 * m + 1) = (prt s (2 * m)).set m (UInt8.ofNat (wth (s[2 * m]'(by omega)) * 16)) := by
  apply List.ext_getElem
  · simp [prt_len]
  · intro j h1 h2
    rw [prt_len] at h1
    rw [List.getElem_set, prt_at s _ h1]
    by_cases e : m = j
    · subst e
      rw [if_pos rfl, if_neg (by omega), if_pos (by omega), List.getD_eq_getElem?_getD, List.getElem?_eq_getElem (by omega)]; rfl
    · rw [if_neg e, prt_at s _ h1]
      by_cases c1 : 2 * j + 1 < 2 * m + 1
      · rw [if_pos c1, if_pos (by omega)]
      · rw [if_neg c1, if_neg (by omega), if_neg (by omega), if_neg (by omega)]
theorem prt_odd (s : List UInt8) {m : Nat} (hm : m < 32) (hs : s.length = 64) : prt s (2 * m + 2) = (prt s (2 * m + 1)).set m (byt (s[2 * m]'(by omega)) (s[2 * m + 1]'(by omega))) := by
  apply List.ext_getElem
  · simp [prt_len]
  · intro j h1 h2
    rw [prt_len] at h1
    rw [List.getElem_set, prt_at s _ h1]
    by_cases e : m = j
    · subst e
      rw [if_pos rfl, if_pos (by omega)]
      simp only [List.getD_eq_getElem?_getD, List.getElem?_eq_getElem (show 2 * m < s.length by omega), List.getElem?_eq_getElem (show 2 * m + 1 < s.length by omega), Option.getD_some]
    · rw [if_neg e, prt_at s _ h1]
      by_cases c1 : 2 * j + 1 < 2 * m + 2
      · rw [if_pos c1, if_pos (by omega)]
      · rw [if_neg c1, if_neg (by omega), if_neg (by omega), if_neg (by omega)]
theorem prt_all (s : List UInt8) (hs : s.length = 64) : prt s 64 = unhex s := by
  apply List.ext_getElem?
  intro m
  by_cases hm : m < 32
  · rw [unhex_at s m (by omega), List.getElem?_eq_getElem (by rw [prt_len]; exact hm), prt_at s 64 hm, if_pos (by omega)]
    simp only [List.getD_eq_getElem?_getD, List.getElem?_eq_getElem (show 2 * m < s.length by omega), List.getElem?_eq_getElem (show 2 * m + 1 < s.length by omega), Option.getD_some]
  · rw [List.getElem?_eq_none (by rw [prt_len]; omega), List.getElem?_eq_none (by rw [unhex_len, hs]; omega)]
theorem readF_len {s : List UInt8} (h : s.length ≠ 64) : readF s = (zId, 3) := by unfold readF; rw [dif_neg h]
theorem readF_bad {s : List UInt8} (h : s.length = 64) {k : Nat} (hk : k < s.length) (hw : ¬ wth s[k] < 16) : readF s = (zId, 14) := by
  unfold readF
  rw [dif_pos h, if_neg]
  unfold allHex
  rw [List.all_eq_true]
  intro ha
  have := ha _ (List.getElem_mem hk)
  exact hw (by simpa using this)
theorem readF_ok {s : List UInt8} (h : s.length = 64) (hw : ∀ k (hk : k < s.length), wth s[k] < 16) : (readF s).1.l = prt s 64 ∧ (readF s).2 = 0 := by
  unfold readF
  rw [dif_pos h, if_pos]
  · exact ⟨(prt_all s h).symm, rfl⟩
  · unfold allHex
    rw [List.all_eq_true]
    intro c hc
    obtain ⟨k, hk, rfl⟩ := List.getElem_of_mem hc
    simpa using hw k hk
end Go.Refs
namespace Go.Proofs.YtopamnfelngkcaaDoor.Rf
open Go.Proofs Go.RowKit Go.Shelf Go.Sl Go.Route Go.Refs
set_option linter.unusedVariables false

theorem worth_any (c : UInt8) (w : World) : Calls Tryd.prog 119 #[.int .u8 (c.toNat : Int)] w fun e w' => e = .returned (.int .i64 (wv c)) ∧ w = w' := by
  obtain ⟨n, hn⟩ : ∃ n, Hid (c.toNat = n) := ⟨_, Lib.hid rfl⟩
  have hn2 : n < 256 := by rw [← hn.out]; exact c.toNat_lt
  rw [hn.out]
  by_cases h1 : 48 ≤ n
  · have d1 : decide ((48 : Int) ≤ (n : Int)) = true := decide_eq_true (by omega)
    by_cases h2 : n ≤ 57
    · have d2 : decide ((n : Int) ≤ 57) = true := decide_eq_true (by omega)
      have HZ : Hid (wv c = (n : Int) - 48) := Lib.hid (by rw [wv_lo (by rw [hn.out]; exact h1) (by rw [hn.out]; exact h2), hn.out])
      go_enter Tryd.func119, Tryd.ntmps119
      go_wp2_with fail
      go_ret
      exact ⟨ret_int HZ.out.symm, rfl⟩
    · have d2 : decide ((n : Int) ≤ 57) = false := decide_eq_false (by omega)
      by_cases h3 : 97 ≤ n
      · have d3 : decide ((97 : Int) ≤ (n : Int)) = true := decide_eq_true (by omega)
        by_cases h4 : n ≤ 102
        · have d4 : decide ((n : Int) ≤ 102) = true := decide_eq_true (by omega)
          have HZ : Hid (wv c = (n : Int) - 97 + 10) := Lib.hid (by rw [wv_hi (by rw [hn.out]; exact h3) (by rw [hn.out]; exact h4), hn.out])
          go_enter Tryd.func119, Tryd.ntmps119
          go_wp2_with fail
          go_ret
          exact ⟨ret_int HZ.out.symm, rfl⟩
        · have d4 : decide ((n : Int) ≤ 102) = false := decide_eq_false (by omega)
          have HZ : Hid (wv c = -1) := Lib.hid (wv_no (by rw [hn.out]; omega) (by rw [hn.out]; omega))
          go_enter Tryd.func119, Tryd.ntmps119
          go_wp2_with fail
          go_ret
          exact ⟨ret_int HZ.out.symm, rfl⟩
      · have d3 : decide ((97 : Int) ≤ (n : Int)) = false := decide_eq_false (by omega)
        have HZ : Hid (wv c = -1) := Lib.hid (wv_no (by rw [hn.out]; omega) (by rw [hn.out]; omega))
        go_enter Tryd.func119, Tryd.ntmps119
        go_wp2_with fail
        go_ret
        exact ⟨ret_int HZ.out.symm, rfl⟩
  · have d1 : decide ((48 : Int) ≤ (n : Int)) = false := decide_eq_false (by omega)
    have d3 : decide ((97 : Int) ≤ (n : Int)) = false := decide_eq_false (by omega)
    have HZ : Hid (wv c = -1) := Lib.hid (wv_no (by rw [hn.out]; omega) (by rw [hn.out]; omega))
    go_enter Tryd.func119, Tryd.ntmps119
    go_wp2_with fail
    go_ret
    exact ⟨ret_int HZ.out.symm, rfl⟩

theorem wv_dig {c : UInt8} {k : Nat} (hk : k < 16) (h : dig k = c) : wv c = k := by
  subst h; unfold wv; rw [wth_dig k hk, if_pos hk]
theorem wv_none {c : UInt8} (h : ∀ k, k < 16 → dig k ≠ c) : wv c = -1 := by
  unfold wv
  by_cases h1 : wth c < 16
  · exact absurd (dig_wth c h1) (h _ h1)
  · rw [if_neg h1]

set_option maxRecDepth 100000 in
set_option maxHeartbeats 1000000 in
theorem rworth_any (c : UInt8) (w : World) : Calls Tryd.prog 120 #[.int .u8 (c.toNat : Int)] w fun e w' => e = .returned (.int .i64 (wv c)) ∧ w = w' := by
  have cl := c_letters
  go_enter Tryd.func120, Tryd.ntmps120
  go_wp2_with fail
  go_loop [3] (fun i => ∃ (k : Nat), k ≤ 16 ∧ i = .int .i64 k ∧ Hid (∀ j, j < k → dig j ≠ c)) (fun i => 16 - (intOf i).toNat)
  case atStart => exact ⟨0, by omega, rfl, Lib.hid (fun j hj => by omega)⟩
  case round =>
    obtain ⟨k, hk, rfl, HT⟩ := hrel
    by_cases hlt : k < 16
    · have d2 : decide ((k : Int) < 16) = true := decide_eq_true (by omega)
      have hx := idxL .i64 hlt
      by_cases he : dig k = c
      · have hb : (((dig k).toNat : Int) == (c.toNat : Int)) = true := by rw [he]; simp
        have HZ := Lib.hid (wv_dig hlt he)
        clear he
        go_wp2_with fail
        go_ret
        exact ⟨ret_int HZ.out.symm, rfl⟩
      · have hne : ¬ ((dig k).toNat : Int) = (c.toNat : Int) := fun h => he (UInt8.toNat_inj.1 (by omega))
        have hb : (((dig k).toNat : Int) == (c.toNat : Int)) = false := by rw [beq_eq_false_iff_ne]; exact hne
        have HT2 : Hid (∀ j, j < k + 1 → dig j ≠ c) := Lib.hid (fun j hj => by
          by_cases e : j = k
          · subst e; exact he
          · exact HT.out j (by omega))
        clear he hne
        go_wp2_with fail
        go_round
        case rel => exact ⟨k + 1, by omega, by go_num, HT2⟩
        case measure => simp [intOf]; omega
    · obtain rfl : k = 16 := by omega
      have d2 : decide (((16 : Nat) : Int) < 16) = false := by decide
      have HZ := Lib.hid (wv_none HT.out)
      go_wp2_with fail
      go_ret
      exact ⟨ret_int HZ.out.symm, rfl⟩
end Go.Proofs.YtopamnfelngkcaaDoor.Rf
