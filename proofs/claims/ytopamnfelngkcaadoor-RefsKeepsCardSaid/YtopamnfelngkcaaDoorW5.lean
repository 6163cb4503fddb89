/-
  Layer 5: a text under another; the document's paths, patterns, strokes; are two lists one. No condition besides what the arguments are.
-/
import Derived.Test.YtopamnfelngkcaaDoorW4
namespace Go.Proofs.YtopamnfelngkcaaDoor
open Go.RowKit Go.Sl Go.Route
set_option linter.unusedVariables false

set_option maxRecDepth 100000 in
set_option maxHeartbeats 1000000 in
theorem rright_any (l : List UInt8) (w : World) (hl : l.length ≤ 100000) :
    Calls Tryd.prog 23 #[.string (bstr l)] w fun e w' => e = .returned (.bool (rgt l)) ∧ Below w.heap.size w w' := by
  have HC := Lib.hid (rparts_any l w hl)
  by_cases h1 : 120 < l.length
  · have d1 : decide ((120 : Int) < l.length) = true := decide_eq_true (by omega)
    have HZ : Hid (false = rgt l) := Lib.hid (by unfold rgt; rw [decide_eq_false (show ¬ l.length ≤ 120 by omega)]; simp)
    clear HC
    go_enter Tryd.func23, Tryd.ntmps23
    go_wp2_with fail
    go_ret
    exact ⟨ret_bool HZ.out, Below.refl _ _⟩
  have d1 : decide ((120 : Int) < l.length) = false := decide_eq_false (by omega)
  have HR : Hid (rgt l = ((parts l).all nam && (decide (1 ≤ (parts l).length) && decide ((parts l).length ≤ 6)))) := Lib.hid (by
    unfold rgt
    by_cases h0 : l = []
    · subst h0; rfl
    · have h2 := parts_pos h0
      have h3 : 1 ≤ l.length := List.length_pos_iff.2 h0
      rw [decide_eq_true h3, decide_eq_true (show l.length ≤ 120 by omega), decide_eq_true h2, Bool.true_and, Bool.true_and, Bool.true_and])
  obtain ⟨P, HP⟩ : ∃ P, Hid (parts l = P) := ⟨_, Lib.hid rfl⟩
  have HPL : Hid (∀ p ∈ P, p.length ≤ l.length) := Lib.hid (fun p hp => by rw [← HP.out] at hp; exact parts_mem_len hp)
  have hpl : P.length ≤ l.length + 1 := by rw [← HP.out]; exact parts_len_le l
  rw [HP.out] at HC HR
  go_enter Tryd.func23, Tryd.ntmps23
  go_wp2_with (go_at_call 16; go_must (refine HC.out.mono ?_; rintro e w2 ⟨v, rfl, hs, hb⟩; have hlen := hs.run_len (P := Tryd.prog) Tryd.underlying22; have HS := Lib.hid hs; have HB := Lib.hid hb; clear hs hb))
  go_loopw [4] (fun i wr => ∃ (k : Nat), k ≤ P.length ∧ i = .int .i64 k ∧ Hid ((P.take k).all nam = true) ∧ Hid (Below w.heap.size w wr) ∧ Hid (Sl eL 1 wr v P)) (fun i _ => P.length - (intOf i).toNat)
  case atStart => exact ⟨0, by omega, rfl, Lib.hid rfl, HB, HS⟩
  case round =>
    obtain ⟨k, hk, rfl, HT, HB2, HS2⟩ := hrel
    by_cases hlt : k < P.length
    · obtain ⟨b1, o1, hb1, hix1, hc1⟩ := HS2.out.at (P := Tryd.prog) Tryd.underlying22 cells9 some9 hlt
      have e1 := hc1 0 (by omega)
      simp only [eL, List.getElem?_cons_zero, Nat.add_zero] at e1
      obtain ⟨x, HX⟩ : ∃ x, Hid (P[k] = x) := ⟨_, Lib.hid rfl⟩
      rw [HX.out] at e1
      have hxl := HPL.out P[k] (List.getElem_mem hlt)
      rw [HX.out] at hxl
      have HC2 := Lib.hid (rname_any x wr (by omega))
      clear hc1
      cases hn : nam x with
      | false =>
        rw [hn] at HC2
        have HZ : Hid (false = rgt l) := Lib.hid (by rw [HR.out, all_no hlt (by rw [HX.out]; exact hn)]; rfl)
        clear hn
        go_wp2_with (go_at_call 21; go_must (refine HC2.out.mono ?_; rintro e w3 ⟨rfl, hb⟩; have HB3 := Lib.hid (below_then HB2.out hb); have HS3 := Lib.hid (HS2.out.ext hb); clear hb))
        go_ret
        exact ⟨ret_bool HZ.out, HB3.out⟩
      | true =>
        rw [hn] at HC2
        have HT2 := Lib.hid (all_take hlt HT.out (by rw [HX.out]; exact hn))
        clear hn
        go_wp2_with (go_at_call 21; go_must (refine HC2.out.mono ?_; rintro e w3 ⟨rfl, hb⟩; have HB3 := Lib.hid (below_then HB2.out hb); have HS3 := Lib.hid (HS2.out.ext hb); clear hb))
        go_roundw
        case rel => exact ⟨k + 1, by omega, by go_num, HT2, HB3, HS3⟩
        case measure => simp [intOf]; omega
    · have h2 := HT.out
      rw [List.take_of_length_le (by omega)] at h2
      by_cases hp0 : 1 ≤ P.length
      · have d5 : decide ((1 : Int) ≤ P.length) = true := decide_eq_true (by omega)
        have d5' : decide (1 ≤ P.length) = true := decide_eq_true (by omega)
        have HZ : Hid (decide ((P.length : Int) ≤ 6) = rgt l) := Lib.hid (by
          rw [HR.out, h2, decide_eq_true hp0, Bool.true_and, Bool.true_and, Bool.eq_iff_iff, decide_eq_true_iff, decide_eq_true_iff]; omega)
        clear h2
        go_wp2_with fail
        go_ret
        exact ⟨ret_bool HZ.out, HB2.out⟩
      · have d5 : decide ((1 : Int) ≤ P.length) = false := decide_eq_false (by omega)
        have d5' : decide (1 ≤ P.length) = false := decide_eq_false (by omega)
        have HZ : Hid (false = rgt l) := Lib.hid (by rw [HR.out, decide_eq_false hp0]; simp)
        clear h2
        go_wp2_with fail
        go_ret
        exact ⟨ret_bool HZ.out, HB2.out⟩


set_option maxRecDepth 100000 in
set_option maxHeartbeats 1000000 in
theorem rpat_any (l : List UInt8) (w : World) (hl : l.length ≤ 100000) :
    Calls Tryd.prog 25 #[.string (bstr l)] w fun e w' => e = .returned (.bool (pat l)) ∧ Below w.heap.size w w' := by
  have HC := Lib.hid (rparts_any l w hl)
  have HV := Lib.hid (rseen_any l w (by omega))
  by_cases h0 : l.length = 0
  · have hl0 : l = [] := List.eq_nil_of_length_eq_zero h0
    subst hl0
    clear HC HV
    go_enter Tryd.func25, Tryd.ntmps25
    go_wp2_with fail
    go_ret
    exact ⟨rfl, Below.refl _ _⟩
  have q0 : decide ((l.length : Int) < 1) = false := decide_eq_false (by omega)
  have q0' : decide (l.length < 1) = false := decide_eq_false (by omega)
  have q0'' : ¬ l = [] := fun e => h0 (by rw [e]; rfl)
  by_cases h1 : 120 < l.length
  · have d1 : decide ((120 : Int) < l.length) = true := decide_eq_true (by omega)
    have HZ : Hid (false = pat l) := Lib.hid (by unfold pat; rw [decide_eq_false (show ¬ l.length ≤ 120 by omega)]; simp)
    clear HC HV
    go_enter Tryd.func25, Tryd.ntmps25
    go_wp2_with fail
    go_ret
    exact ⟨ret_bool HZ.out, Below.refl _ _⟩
  have d1 : decide ((120 : Int) < l.length) = false := decide_eq_false (by omega)
  have HR : Hid (pat l = (vis l && (parts l).all (fun p => decide (p ≠ [])) && decide ((parts l).length ≤ 8))) := Lib.hid (by
    unfold pat; rw [decide_eq_true (show 1 ≤ l.length by omega), decide_eq_true (show l.length ≤ 120 by omega), Bool.true_and, Bool.true_and])
  cases hv : vis l with
  | false =>
    rw [hv] at HV HR
    have HZ : Hid (false = pat l) := Lib.hid (by rw [HR.out]; rfl)
    clear HC hv
    go_enter Tryd.func25, Tryd.ntmps25
    go_wp2_with (go_at_call 69; go_must (refine HV.out.mono ?_; rintro e w' ⟨rfl, rfl⟩))
    go_ret
    exact ⟨ret_bool HZ.out, Below.refl _ _⟩
  | true =>
  rw [hv] at HV HR
  clear hv
  obtain ⟨P, HP⟩ : ∃ P, Hid (parts l = P) := ⟨_, Lib.hid rfl⟩
  have hpl : P.length ≤ l.length + 1 := by rw [← HP.out]; exact parts_len_le l
  rw [HP.out] at HC HR
  go_enter Tryd.func25, Tryd.ntmps25
  go_wp2_with (first
    | (go_at_call 69; go_must (refine HV.out.mono ?_; rintro e w' ⟨rfl, rfl⟩))
    | (go_at_call 16; go_must (refine HC.out.mono ?_; rintro e w2 ⟨v, rfl, hs, hb⟩; have hlen := hs.run_len (P := Tryd.prog) Tryd.underlying22; have HS := Lib.hid hs; have HB := Lib.hid hb; clear hs hb)))
  go_loop [4] (fun i => ∃ (k : Nat), k ≤ P.length ∧ i = .int .i64 k ∧ Hid ((P.take k).all (fun p => decide (p ≠ [])) = true)) (fun i => P.length - (intOf i).toNat)
  case atStart => exact ⟨0, by omega, rfl, Lib.hid rfl⟩
  case round =>
    obtain ⟨k, hk, rfl, HT⟩ := hrel
    by_cases hlt : k < P.length
    · obtain ⟨b1, o1, hb1, hix1, hc1⟩ := HS.out.at (P := Tryd.prog) Tryd.underlying22 cells9 some9 hlt
      have e1 := hc1 0 (by omega)
      simp only [eL, List.getElem?_cons_zero, Nat.add_zero] at e1
      obtain ⟨x, HX⟩ : ∃ x, Hid (P[k] = x) := ⟨_, Lib.hid rfl⟩
      rw [HX.out] at e1
      clear hc1
      by_cases hn : x = []
      · subst hn
        have HZ : Hid (false = pat l) := Lib.hid (by rw [HR.out, all_no hlt (by rw [HX.out]; rfl)]; rfl)
        go_wp2_with fail
        go_ret
        exact ⟨ret_bool HZ.out, HB.out⟩
      · have q1 : (x == []) = false := by simpa using hn
        have q2 : x.isEmpty = false := by simpa using hn
        have HT2 := Lib.hid (all_take hlt HT.out (by rw [HX.out]; exact decide_eq_true hn))
        clear hn
        go_wp2_with fail
        go_round
        case rel => exact ⟨k + 1, by omega, by go_num, HT2⟩
        case measure => simp [intOf]; omega
    · have HZ : Hid (decide ((P.length : Int) ≤ 8) = pat l) := Lib.hid (by
        have h2 := HT.out
        rw [List.take_of_length_le (by omega)] at h2
        rw [HR.out, h2, Bool.true_and, Bool.true_and, Bool.eq_iff_iff, decide_eq_true_iff, decide_eq_true_iff]; omega)
      go_wp2_with fail
      go_ret
      exact ⟨ret_bool HZ.out, HB.out⟩


theorem lastB_snoc (l : List UInt8) (c : UInt8) : lastB (l ++ [c]) = if c = 47 then l.length + 1 else lastB l := by
  by_cases h : c = 47
  · rw [if_pos h]
    refine lastB_at (i := l.length) (by simp) (by simp [h]) (fun k hk hik => ?_)
    simp at hk; omega
  · rw [if_neg h]
    rcases lastB_spec l with ⟨h1, h2⟩ | ⟨i, h1, hi, h2, h3⟩
    · rw [h1]
      refine lastB_none (fun k hk => ?_)
      by_cases hkl : k < l.length
      · rw [List.getElem_append_left hkl]; exact h2 k hkl
      · have : k = l.length := by simp at hk; omega
        subst this; simpa using h
    · rw [h1]
      refine lastB_at (by simp; omega) (by rw [List.getElem_append_left hi]; exact h2) (fun k hk hik => ?_)
      by_cases hkl : k < l.length
      · rw [List.getElem_append_left hkl]; exact h3 k hkl hik
      · have : k = l.length := by simp at hk; omega
        subst this; simpa using h

set_option maxRecDepth 100000 in
set_option maxHeartbeats 400000 in
theorem rlast_any (l : List UInt8) (w : World) (hl : l.length ≤ 100000) : Calls Tryd.prog 72 #[.string (bstr l)] w fun e w' => e = .returned (.int .i64 ((lastB l : Int) - 1)) ∧ w = w' := by
  go_enter Tryd.func72, Tryd.ntmps72
  go_wp2_with fail
  go_loop [3, 4] (fun a i => ∃ (k : Nat), k ≤ l.length ∧ i = .int .i64 k ∧ ∃ m : Nat, a = .int .i64 ((m : Int) - 1) ∧ m ≤ k ∧ Hid (lastB (l.take k) = m)) (fun _ i => l.length - (intOf i).toNat)
  case atStart => exact ⟨0, by omega, rfl, 0, rfl, by omega, Lib.hid rfl⟩
  case round =>
    obtain ⟨k, hk, rfl, m, rfl, hm, HT⟩ := hrel
    by_cases hlt : k < l.length
    · have hs := lastB_snoc (l.take k) l[k]
      rw [← List.take_succ_eq_append_getElem hlt, List.length_take, Nat.min_eq_left hk] at hs
      by_cases h47 : l[k] = 47
      · have c1 : ((l[k].toNat : Int) == 47) = true := by rw [h47]; rfl
        have c2 : (l[k].toNat : Int) = 47 := by rw [h47]; rfl
        have HT2 : Hid (lastB (l.take (k + 1)) = k + 1) := Lib.hid (by rw [hs, if_pos h47])
        clear h47 hs
        go_wp2_with fail
        go_round
        case rel => exact ⟨k + 1, by omega, by go_num, k + 1, by go_num, by omega, HT2⟩
        case measure => simp [intOf]; omega
      · have hne : ¬ (l[k].toNat : Int) = 47 := fun e => h47 (UInt8.toNat_inj.1 (by show l[k].toNat = 47; omega))
        have c1 : ((l[k].toNat : Int) == 47) = false := by rw [beq_eq_false_iff_ne]; exact hne
        have HT2 : Hid (lastB (l.take (k + 1)) = m) := Lib.hid (by rw [hs, if_neg h47, HT.out])
        clear h47 hs
        go_wp2_with fail
        go_round
        case rel => exact ⟨k + 1, by omega, by go_num, m, rfl, by omega, HT2⟩
        case measure => simp [intOf]; omega
    · have HZ : Hid (lastB l = m) := Lib.hid (by have := HT.out; rwa [List.take_of_length_le (by omega)] at this)
      go_wp2_with fail
      go_ret
      exact ⟨ret_int (by rw [HZ.out]), rfl⟩

set_option maxHeartbeats 400000 in
theorem rdir_any (l : List UInt8) (w : World) (hl : l.length ≤ 100000) :
    Calls Tryd.prog 34 #[.string (bstr l)] w fun e w' => e = .returned (.string (bstr (dirOf l))) ∧ w = w' := by
  have hC := rlast_any l w hl
  have hle := lastB_le l
  obtain ⟨n, HN⟩ : ∃ n, Hid (lastB l = n) := ⟨_, Lib.hid rfl⟩
  have HD : Hid (dirOf l = l.take (n - 1)) := Lib.hid (by unfold dirOf; rw [HN.out])
  rw [HN.out] at hC hle
  cases n with
  | zero =>
    have HC := Lib.hid hC
    clear hC
    go_enter Tryd.func34, Tryd.ntmps34
    go_wp2_with (go_at_call 72; go_must (refine HC.out.mono ?_; rintro e w' ⟨rfl, rfl⟩))
    go_ret
    exact ⟨by rw [HD.out]; rfl, rfl⟩
  | succ n =>
    have hc : ((n + 1 : Nat) : Int) - 1 = n := by omega
    rw [hc] at hC
    have HC := Lib.hid hC
    clear hC hc
    go_enter Tryd.func34, Tryd.ntmps34
    go_wp2_with (go_at_call 72; go_must (refine HC.out.mono ?_; rintro e w' ⟨rfl, rfl⟩))
    go_ret
    exact ⟨by rw [HD.out]; simp, rfl⟩


set_option maxHeartbeats 400000 in
theorem rbase_any (l : List UInt8) (w : World) (hl : l.length ≤ 100000) :
    Calls Tryd.prog 37 #[.string (bstr l)] w fun e w' => e = .returned (.string (bstr (baseOf l))) ∧ w = w' := by
  have hC := rlast_any l w hl
  have hle := lastB_le l
  obtain ⟨n, HN⟩ : ∃ n, Hid (lastB l = n) := ⟨_, Lib.hid rfl⟩
  have HD : Hid (baseOf l = l.drop n) := Lib.hid (by unfold baseOf; rw [HN.out])
  rw [HN.out] at hC hle
  have HC := Lib.hid hC
  have hc : (n : Int) - 1 + 1 = n := by omega
  clear hC
  go_enter Tryd.func37, Tryd.ntmps37
  go_wp2_with (go_at_call 72; go_must (refine HC.out.mono ?_; rintro e w' ⟨rfl, rfl⟩))
  go_ret
  exact ⟨by rw [HD.out]; simp, rfl⟩

set_option maxHeartbeats 400000 in
theorem rjoin_any (d n : List UInt8) (w : World) (hd : d.length ≤ 100000) (hn : n.length ≤ 100000) :
    Calls Tryd.prog 29 #[.string (bstr d), .string (bstr n)] w fun e w' => e = .returned (.string (bstr (jn d n))) ∧ w = w' := by
  by_cases h0 : d = []
  · subst h0
    go_enter Tryd.func29, Tryd.ntmps29
    go_wp2_with fail
    go_ret
    exact ⟨rfl, rfl⟩
  · have h1 : (d == []) = false := by simpa using h0
    have h2 : d.isEmpty = false := by simpa using h0
    have HZ2 : Hid (d ++ 47 :: n = jn d n) := Lib.hid (by unfold jn; rw [if_neg h0])
    have c1 : (⟨#[47]⟩ : ByteArray) = bstr [47] := rfl
    clear h0
    go_enter Tryd.func29, Tryd.ntmps29
    go_wp2_with fail
    go_ret
    exact ⟨by rw [← HZ2.out]; rfl, rfl⟩


theorem und_nil (s : List UInt8) : und s [] = true := by unfold und; simp
theorem und_self (s : List UInt8) : und s s = true := by unfold und; simp
theorem und_of {s d : List UInt8} (h1 : d ≠ []) (h2 : s ≠ d) : und s d = (decide (d.length < s.length) && decide (s.take d.length = d) && decide (s[d.length]? = some 47)) := by
  unfold und; rw [decide_eq_false h1, decide_eq_false h2, Bool.false_or, Bool.false_or]

set_option maxRecDepth 100000 in
set_option maxHeartbeats 1000000 in
theorem under_any (s d : List UInt8) (w : World) (hs : s.length ≤ 100000) (hd : d.length ≤ 100000) :
    Calls Tryd.prog 38 #[.string (bstr s), .string (bstr d)] w fun e w' => e = .returned (.bool (und s d)) ∧ w = w' := by
  by_cases h0 : d = []
  · subst h0
    have HZ := Lib.hid (und_nil s)
    go_enter Tryd.func38, Tryd.ntmps38
    go_wp2_with fail
    go_ret
    exact ⟨ret_bool HZ.out.symm, rfl⟩
  have q0 : (d == []) = false := by simpa using h0
  have q0' : d.isEmpty = false := by simpa using h0
  by_cases h1 : s = d
  · subst h1
    have HZ := Lib.hid (und_self s)
    have q1 : (s == s) = true := by simp
    clear h0
    go_enter Tryd.func38, Tryd.ntmps38
    go_wp2_with fail
    go_ret
    exact ⟨ret_bool HZ.out.symm, rfl⟩
  have q1 : (s == d) = false := by simpa using h1
  have HU := Lib.hid (und_of h0 h1)
  clear h0 h1
  by_cases h2 : d.length < s.length
  · have d2 : decide (d.length < s.length) = true := decide_eq_true h2
    rw [d2] at HU
    by_cases h3 : s.take d.length = d
    · have q3 : (s.take d.length == d) = true := by simpa using h3
      rw [decide_eq_true h3] at HU
      by_cases h4 : s[d.length] = 47
      · have c1 : ((s[d.length].toNat : Int) == 47) = true := by rw [h4]; rfl
        have c2 : (s[d.length].toNat : Int) = 47 := by rw [h4]; rfl
        have HZ : Hid (true = und s d) := Lib.hid (by rw [HU.out, List.getElem?_eq_getElem h2, h4]; rfl)
        clear h3 h4
        go_enter Tryd.func38, Tryd.ntmps38
        go_wp2_with fail
        go_ret
        exact ⟨ret_bool HZ.out, rfl⟩
      · have hne : ¬ (s[d.length].toNat : Int) = 47 := fun e => h4 (UInt8.toNat_inj.1 (by show s[d.length].toNat = 47; omega))
        have c1 : ((s[d.length].toNat : Int) == 47) = false := by rw [beq_eq_false_iff_ne]; exact hne
        have HZ : Hid (false = und s d) := Lib.hid (by
          rw [HU.out, List.getElem?_eq_getElem h2, decide_eq_false (show ¬ some s[d.length] = some 47 from fun e => h4 (Option.some.inj e))]; rfl)
        clear h3 h4
        go_enter Tryd.func38, Tryd.ntmps38
        go_wp2_with fail
        go_ret
        exact ⟨ret_bool HZ.out, rfl⟩
    · have q3 : (s.take d.length == d) = false := by simpa using h3
      have HZ : Hid (false = und s d) := Lib.hid (by rw [HU.out, decide_eq_false h3]; rfl)
      clear h3
      go_enter Tryd.func38, Tryd.ntmps38
      go_wp2_with fail
      go_ret
      exact ⟨ret_bool HZ.out, rfl⟩
  · have d2 : decide (d.length < s.length) = false := decide_eq_false h2
    have HZ : Hid (false = und s d) := Lib.hid (by rw [HU.out, d2]; rfl)
    go_enter Tryd.func38, Tryd.ntmps38
    go_wp2_with fail
    go_ret
    exact ⟨ret_bool HZ.out, rfl⟩

set_option maxRecDepth 100000 in
set_option maxHeartbeats 1000000 in
theorem runder_any (s d : List UInt8) (w : World) (hs : s.length ≤ 100000) (hd : d.length ≤ 100000) :
    Calls Tryd.prog 39 #[.string (bstr s), .string (bstr d)] w fun e w' => e = .returned (.bool (und s d)) ∧ w = w' := by
  by_cases h0 : d = []
  · subst h0
    have HZ := Lib.hid (und_nil s)
    go_enter Tryd.func39, Tryd.ntmps39
    go_wp2_with fail
    go_ret
    exact ⟨ret_bool HZ.out.symm, rfl⟩
  have q0 : (d == []) = false := by simpa using h0
  have q0' : d.isEmpty = false := by simpa using h0
  by_cases h1 : s = d
  · subst h1
    have HZ := Lib.hid (und_self s)
    have q1 : (s == s) = true := by simp
    clear h0
    go_enter Tryd.func39, Tryd.ntmps39
    go_wp2_with fail
    go_ret
    exact ⟨ret_bool HZ.out.symm, rfl⟩
  have q1 : (s == d) = false := by simpa using h1
  have HU := Lib.hid (und_of h0 h1)
  clear h0 h1
  by_cases h2 : d.length < s.length
  · have d2 : decide (d.length < s.length) = true := decide_eq_true h2
    rw [d2] at HU
    have hiff : (s.take (d.length + 1) = d ++ [47]) ↔ (s.take d.length = d ∧ s[d.length]? = some 47) := by
      rw [List.take_succ_eq_append_getElem h2, List.getElem?_eq_getElem h2]
      constructor
      · intro e
        obtain ⟨e1, e2⟩ := List.append_inj e (by rw [List.length_take]; omega)
        exact ⟨e1, by simpa using e2⟩
      · rintro ⟨e1, e2⟩
        rw [e1, Option.some.inj e2]
    have HZ : Hid ((s.take (d.length + 1) == d ++ [47]) = und s d) := Lib.hid (by
      rw [HU.out, Bool.eq_iff_iff, beq_iff_eq, hiff, Bool.true_and, Bool.and_eq_true, decide_eq_true_iff, decide_eq_true_iff])
    have c1 : (⟨#[47]⟩ : ByteArray) = bstr [47] := rfl
    clear hiff
    go_enter Tryd.func39, Tryd.ntmps39
    go_wp2_with fail
    go_ret
    exact ⟨ret_bool HZ.out, rfl⟩
  · have d2 : decide (d.length < s.length) = false := decide_eq_false h2
    have HZ : Hid (false = und s d) := Lib.hid (by rw [HU.out, d2]; rfl)
    go_enter Tryd.func39, Tryd.ntmps39
    go_wp2_with fail
    go_ret
    exact ⟨ret_bool HZ.out, rfl⟩

set_option maxHeartbeats 400000 in
theorem sameS_any (v1 v2 : Value) (l1 l2 : List (List UInt8)) (w : World) (h1 : Sl eL 1 w v1 l1) (h2 : Sl eL 1 w v2 l2) :
    Calls Tryd.prog 26 #[v1, v2] w fun e w' => e = .returned (.bool (decide (l1 = l2))) ∧ ∃ n, w' = w.drewN n := by
  have hlen1 := h1.run_len (P := Tryd.prog) Tryd.underlying22
  have hlen2 := h2.run_len (P := Tryd.prog) Tryd.underlying22
  have hmax := h1.len_le
  have hmax2 := h2.len_le
  by_cases hl : l1.length = l2.length
  · rw [← hl] at hlen2
    have HL := Lib.hid hl
    clear hl hmax2
    go_enter Tryd.func26, Tryd.ntmps26
    go_wp2_with fail
    go_loopw [5] (fun i wr => ∃ (k : Nat), k ≤ l1.length ∧ i = .int .i64 k ∧ Hid (l1.take k = l2.take k) ∧ ∃ n, Hid (wr = w.drewN n)) (fun i _ => l1.length - (intOf i).toNat)
    case atStart => exact ⟨0, by omega, rfl, Lib.hid rfl, 0, Lib.hid rfl⟩
    case round =>
      obtain ⟨k, hk, rfl, HT, n, HW⟩ := hrel
      obtain rfl := HW.out
      clear HW
      by_cases hlt : k < l1.length
      · have hlt2 : k < l2.length := by rw [← HL.out]; exact hlt
        obtain ⟨b1, o1, hb1, hix1, hc1⟩ := h1.at (P := Tryd.prog) Tryd.underlying22 cells9 some9 hlt
        obtain ⟨b2, o2, hb2, hix2, hc2⟩ := h2.at (P := Tryd.prog) Tryd.underlying22 cells9 some9 hlt2
        have e1 := hc1 0 (by omega)
        have e2 := hc2 0 (by omega)
        simp only [eL, List.getElem?_cons_zero, Nat.add_zero] at e1 e2
        obtain ⟨x, HX⟩ : ∃ x, Hid (l1[k] = x) := ⟨_, Lib.hid rfl⟩
        obtain ⟨y, HY⟩ : ∃ y, Hid (l2[k] = y) := ⟨_, Lib.hid rfl⟩
        rw [HX.out] at e1
        rw [HY.out] at e2
        clear hc1 hc2
        by_cases hxy : x = y
        · have hb : (x == y) = true := by simp [hxy]
          have HXY := Lib.hid hxy
          clear hxy
          go_wp2_with fail
          go_quiet (fail)
          go_wp2_with fail
          go_roundw
          case rel => exact ⟨k + 1, by omega, by go_num, Lib.hid (by rw [List.take_succ_eq_append_getElem hlt, List.take_succ_eq_append_getElem hlt2, HX.out, HY.out, HT.out, HXY.out]), _, Lib.hid rfl⟩
          case measure => simp [intOf]; omega
        · have hb : (x == y) = false := by simp [hxy]
          have HN := Lib.hid (show ¬ l1 = l2 from fun e => by subst e; exact hxy (HX.out.symm.trans HY.out))
          clear hxy
          go_wp2_with fail
          go_quiet (fail)
          go_wp2_with fail
          go_ret
          exact ⟨ret_bool (decide_eq_false HN.out).symm, _, World.drewN_drewN _ _ _⟩
      · go_wp2_with fail
        go_ret
        refine ⟨ret_bool (decide_eq_true ?_).symm, _, rfl⟩
        have := HT.out
        rwa [List.take_of_length_le (by omega), List.take_of_length_le (by rw [← HL.out]; omega)] at this
  · have hb : ((l1.length : Int) == l2.length) = false := by simpa using (fun h => hl (by omega) : ¬ (l1.length : Int) = l2.length)
    have hb2 : (l1.length == l2.length) = false := by simpa using hl
    have HN := Lib.hid (show ¬ l1 = l2 from fun e => hl (by rw [e]))
    clear hl
    go_enter Tryd.func26, Tryd.ntmps26
    go_wp2_with fail
    go_ret
    exact ⟨ret_bool (decide_eq_false HN.out).symm, 0, rfl⟩



end Go.Proofs.YtopamnfelngkcaaDoor
