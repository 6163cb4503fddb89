/-
  Layer 5: patterns, two texts joined, directories, the texts under one. No condition besides what the arguments are.
-/
import Derived.Test.YtopamnfelngkcaaDoorW2
namespace Go.Proofs.YtopamnfelngkcaaDoor
open Go.RowKit Go.Sl Go.Route
set_option linter.unusedVariables false

set_option maxRecDepth 100000 in
set_option maxHeartbeats 1000000 in
theorem pattern_any (l : List UInt8) (w : World) (hl : l.length ≤ 100000) (hm : Ml w) :
    Calls Tryd.prog 24 #[.string (bstr l)] w fun e w' => e = .returned (.bool (pat l)) ∧ Below w.heap.size w w' := by
  have HC := Lib.hid (parts_any l w hl hm)
  have HV := Lib.hid (plain_any l w (by omega))
  by_cases h0 : l.length = 0
  · have hl0 : l = [] := List.eq_nil_of_length_eq_zero h0
    subst hl0
    clear HC HV
    go_enter Tryd.func24, Tryd.ntmps24
    go_wp2_with fail
    go_ret
    exact ⟨rfl, Below.refl _ _⟩
  have q0 : (l.length == 0) = false := by simpa using h0
  have q0' : ((l.length : Int) == 0) = false := by rw [beq_eq_false_iff_ne]; omega
  have q0'' : ¬ l = [] := fun e => h0 (by rw [e]; rfl)
  by_cases h1 : 120 < l.length
  · have d1 : decide ((120 : Int) < l.length) = true := decide_eq_true (by omega)
    have HZ : Hid (false = pat l) := Lib.hid (by unfold pat; rw [decide_eq_false (show ¬ l.length ≤ 120 by omega)]; simp)
    clear HC HV
    go_enter Tryd.func24, Tryd.ntmps24
    go_wp2_with fail
    go_ret
    exact ⟨ret_bool HZ.out, Below.refl _ _⟩
  have d1 : decide ((120 : Int) < l.length) = false := decide_eq_false (by omega)
  have HR : Hid (pat l = (vis l && (parts l).all (fun p => decide (p ≠ [])) && decide ((parts l).length ≤ 8))) := Lib.hid (by
    unfold pat; rw [decide_eq_true (show 1 ≤ l.length by omega), decide_eq_true (show l.length ≤ 120 by omega), Bool.true_and, Bool.true_and])
  cases hv : vis l with
  | false =>
    rw [hv] at HV HR
    have HZ : Hid (false = pat l) := Lib.hid (by rw [HR.out]; rfl)
    clear HC hv
    go_enter Tryd.func24, Tryd.ntmps24
    go_wp2_with (go_at_call 67; go_must (refine HV.out.mono ?_; rintro e w' ⟨rfl, rfl⟩))
    go_ret
    exact ⟨ret_bool HZ.out, Below.refl _ _⟩
  | true =>
  rw [hv] at HV HR
  clear hv
  obtain ⟨P, HP⟩ : ∃ P, Hid (parts l = P) := ⟨_, Lib.hid rfl⟩
  have hpl : P.length ≤ l.length + 1 := by rw [← HP.out]; exact parts_len_le l
  rw [HP.out] at HC HR
  go_enter Tryd.func24, Tryd.ntmps24
  go_wp2_with (first
    | (go_at_call 67; go_must (refine HV.out.mono ?_; rintro e w' ⟨rfl, rfl⟩))
    | (go_at_call 27; go_must (refine HC.out.mono ?_; rintro e w2 ⟨v, rfl, hs, hb⟩; have hlen := hs.run_len (P := Tryd.prog) Tryd.underlying22; have HS := Lib.hid hs; have HB := Lib.hid hb; clear hs hb)))
  go_loop [23] (fun i => ∃ (k : Nat), k ≤ P.length ∧ i = .int .i64 k ∧ Hid ((P.take k).all (fun p => decide (p ≠ [])) = true)) (fun i => P.length - (intOf i).toNat)
  case atStart => exact ⟨0, by omega, rfl, Lib.hid rfl⟩
  case round =>
    obtain ⟨k, hk, rfl, HT⟩ := hrel
    by_cases hlt : k < P.length
    · obtain ⟨b1, o1, hb1, hix1, hc1⟩ := HS.out.at (P := Tryd.prog) Tryd.underlying22 cells9 some9 hlt
      have e1 := hc1 0 (by omega)
      simp only [eL, List.getElem?_cons_zero, Nat.add_zero] at e1
      obtain ⟨x, HX⟩ : ∃ x, Hid (P[k] = x) := ⟨_, Lib.hid rfl⟩
      rw [HX.out] at e1
      clear hc1
      by_cases hn : x = []
      · subst hn
        have HZ : Hid (false = pat l) := Lib.hid (by rw [HR.out, all_no hlt (by rw [HX.out]; rfl)]; rfl)
        go_wp2_with fail
        go_ret
        exact ⟨ret_bool HZ.out, HB.out⟩
      · have q1 : (x == []) = false := by simpa using hn
        have q2 : x.isEmpty = false := by simpa using hn
        have HT2 := Lib.hid (all_take hlt HT.out (by rw [HX.out]; exact decide_eq_true hn))
        clear hn
        go_wp2_with fail
        go_round
        case rel => exact ⟨k + 1, by omega, by go_num, HT2⟩
        case measure => simp [intOf]; omega
    · have HZ : Hid (decide ((P.length : Int) ≤ 8) = pat l) := Lib.hid (by
        have h2 := HT.out
        rw [List.take_of_length_le (by omega)] at h2
        rw [HR.out, h2, Bool.true_and, Bool.true_and, Bool.eq_iff_iff, decide_eq_true_iff, decide_eq_true_iff]; omega)
      go_wp2_with fail
      go_ret
      exact ⟨ret_bool HZ.out, HB.out⟩

set_option maxHeartbeats 400000 in
theorem join_any (d n : List UInt8) (w : World) (hd : d.length ≤ 100000) (hn : n.length ≤ 100000) :
    Calls Tryd.prog 28 #[.string (bstr d), .string (bstr n)] w fun e w' => e = .returned (.string (bstr (jn d n))) ∧ w = w' := by
  by_cases h0 : d = []
  · subst h0
    go_enter Tryd.func28, Tryd.ntmps28
    go_wp2_with fail
    go_ret
    exact ⟨rfl, rfl⟩
  · have h1 : (d == []) = false := by simpa using h0
    have h2 : d.isEmpty = false := by simpa using h0
    have HZ2 : Hid (d ++ 47 :: n = jn d n) := Lib.hid (by unfold jn; rw [if_neg h0])
    have c1 : (⟨#[47]⟩ : ByteArray) = bstr [47] := rfl
    clear h0
    go_enter Tryd.func28, Tryd.ntmps28
    go_wp2_with fail
    go_ret
    exact ⟨by rw [← HZ2.out]; rfl, rfl⟩

theorem last_eq (l : List UInt8) : Lib.lastIndexByte (bstr l) 47 = (lastB l : Int) - 1 := by
  have hd : ∀ j (h : j < l.length), ((bstr l).data[j]!) = l[j] := fun j h => by simp [bstr, h]
  have hs : (bstr l).size = l.length := bstr_size l
  unfold Lib.lastIndexByte
  rw [hs]
  rcases Lib.lastIdx_spec (bstr l) 47 l.length with ⟨h1, h2⟩ | ⟨i, hi, h1, h2, h3⟩
  · rw [h1, lastB_none (fun k hk e => h2 k hk (by rw [hd k hk, e]; rfl))]; rfl
  · rw [hd i hi] at h2
    have : lastB l = i + 1 := lastB_at hi (UInt8.toNat_inj.1 (by show l[i].toNat = 47; omega)) (fun k hk hik e => h3 k hik hk (by rw [hd k hk, e]; rfl))
    rw [h1, this]; omega
theorem last_any (l : List UInt8) (w : World) (hl : l.length ≤ 100000) : Calls Tryd.prog 73 #[.string (bstr l), .int .u8 47] w fun e w' => e = .returned (.int .i64 ((lastB l : Int) - 1)) ∧ w = w' := by
  refine (Tryd.strings_LastIndexByte (bstr l) 47 (by rw [bstr_size]; omega) w).mono ?_
  rintro e w' ⟨rfl, rfl⟩
  exact ⟨by rw [last_eq], rfl⟩

set_option maxHeartbeats 400000 in
theorem dir_any (l : List UInt8) (w : World) (hl : l.length ≤ 100000) :
    Calls Tryd.prog 35 #[.string (bstr l)] w fun e w' => e = .returned (.string (bstr (dirOf l))) ∧ w = w' := by
  have hC := last_any l w hl
  have hle := lastB_le l
  obtain ⟨n, HN⟩ : ∃ n, Hid (lastB l = n) := ⟨_, Lib.hid rfl⟩
  have HD : Hid (dirOf l = l.take (n - 1)) := Lib.hid (by unfold dirOf; rw [HN.out])
  rw [HN.out] at hC hle
  cases n with
  | zero =>
    have HC := Lib.hid hC
    clear hC
    go_enter Tryd.func35, Tryd.ntmps35
    go_wp2_with (go_at_call 73; go_must (refine HC.out.mono ?_; rintro e w' ⟨rfl, rfl⟩))
    go_ret
    exact ⟨by rw [HD.out]; rfl, rfl⟩
  | succ n =>
    have hc : ((n + 1 : Nat) : Int) - 1 = n := by omega
    rw [hc] at hC
    have HC := Lib.hid hC
    clear hC hc
    go_enter Tryd.func35, Tryd.ntmps35
    go_wp2_with (go_at_call 73; go_must (refine HC.out.mono ?_; rintro e w' ⟨rfl, rfl⟩))
    go_ret
    exact ⟨by rw [HD.out]; simp, rfl⟩

set_option maxHeartbeats 400000 in
theorem base_any (l : List UInt8) (w : World) (hl : l.length ≤ 100000) :
    Calls Tryd.prog 36 #[.string (bstr l)] w fun e w' => e = .returned (.string (bstr (baseOf l))) ∧ w = w' := by
  have hC := last_any l w hl
  have hle := lastB_le l
  obtain ⟨n, HN⟩ : ∃ n, Hid (lastB l = n) := ⟨_, Lib.hid rfl⟩
  have HD : Hid (baseOf l = l.drop n) := Lib.hid (by unfold baseOf; rw [HN.out])
  rw [HN.out] at hC hle
  have HC := Lib.hid hC
  have hc : (n : Int) - 1 + 1 = n := by omega
  clear hC
  go_enter Tryd.func36, Tryd.ntmps36
  go_wp2_with (go_at_call 73; go_must (refine HC.out.mono ?_; rintro e w' ⟨rfl, rfl⟩))
  go_ret
  exact ⟨by rw [HD.out]; simp, rfl⟩
end Go.Proofs.YtopamnfelngkcaaDoor
