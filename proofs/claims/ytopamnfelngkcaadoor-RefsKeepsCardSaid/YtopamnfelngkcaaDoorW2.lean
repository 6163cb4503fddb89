/-
  Layer 5: names, paths, patterns. No condition besides what the arguments are.
-/
import Derived.Test.YtopamnfelngkcaaDoorW1
namespace Go.Proofs.YtopamnfelngkcaaDoor
open Go.RowKit Go.Sl Go.Route
set_option linter.unusedVariables false

set_option maxRecDepth 100000 in
set_option maxHeartbeats 1000000 in
theorem name_any (l : List UInt8) (w : World) (hl : l.length ≤ 9223372036854775807) :
    Calls Tryd.prog 20 #[.string (bstr l)] w fun e w' => e = .returned (.bool (nam l)) ∧ w = w' := by
  have HP := Lib.hid (plain_any l w hl)
  have HM := Lib.hid (contains_any l w)
  by_cases h0 : l.length = 0
  · have hl0 : l = [] := List.eq_nil_of_length_eq_zero h0
    subst hl0
    go_enter Tryd.func20, Tryd.ntmps20
    go_wp2_with fail
    go_ret
    exact ⟨rfl, rfl⟩
  have d0 : decide ((0 : Int) < l.length) = true := decide_eq_true (by omega)
  have d0' : decide (0 < l.length) = true := decide_eq_true (by omega)
  by_cases h1 : l.length ≤ 32
  · have d1 : decide ((l.length : Int) ≤ 32) = true := decide_eq_true (by omega)
    have HN : Hid (nam l = (vis l && decide (¬ (47 : UInt8) ∈ l) && decide (l ≠ [46]) && decide (l ≠ [46, 46]))) := Lib.hid (by
      unfold nam; rw [decide_eq_true (show 1 ≤ l.length by omega), decide_eq_true h1, Bool.true_and, Bool.true_and])
    cases hv : vis l with
    | false =>
      rw [hv] at HP HN
      have HZ : Hid (false = nam l) := Lib.hid (by rw [HN.out]; rfl)
      clear hv HN
      go_enter Tryd.func20, Tryd.ntmps20
      go_wp2_with (go_at_call 67; go_must (refine HP.out.mono ?_; rintro e w' ⟨rfl, rfl⟩))
      go_ret
      exact ⟨ret_bool HZ.out, rfl⟩
    | true =>
      rw [hv] at HP HN
      clear hv
      by_cases hm : (47 : UInt8) ∈ l
      · rw [decide_eq_true hm] at HM
        have HZ : Hid (false = nam l) := Lib.hid (by rw [HN.out]; simp [hm])
        clear hm HN
        go_enter Tryd.func20, Tryd.ntmps20
        go_wp2_with (first | (go_at_call 67; go_must (refine HP.out.mono ?_; rintro e w' ⟨rfl, rfl⟩)) | (go_at_call 68; go_must (refine HM.out.mono ?_; rintro e w' ⟨rfl, rfl⟩)))
        go_ret
        exact ⟨ret_bool HZ.out, rfl⟩
      · rw [decide_eq_false hm] at HM
        by_cases hd : l = [46]
        · have q1 : (l == [46]) = true := by simp [hd]
          have HZ : Hid (false = nam l) := Lib.hid (by rw [HN.out]; simp [hd])
          clear hm HN hd
          go_enter Tryd.func20, Tryd.ntmps20
          go_wp2_with (first | (go_at_call 67; go_must (refine HP.out.mono ?_; rintro e w' ⟨rfl, rfl⟩)) | (go_at_call 68; go_must (refine HM.out.mono ?_; rintro e w' ⟨rfl, rfl⟩)))
          go_ret
          exact ⟨ret_bool HZ.out, rfl⟩
        · have q1 : (l == [46]) = false := by simpa using hd
          by_cases he : l = [46, 46]
          · have q2 : (l == [46, 46]) = true := by simp [he]
            have HZ : Hid (false = nam l) := Lib.hid (by rw [HN.out]; simp [he])
            clear hm HN hd he
            go_enter Tryd.func20, Tryd.ntmps20
            go_wp2_with (first | (go_at_call 67; go_must (refine HP.out.mono ?_; rintro e w' ⟨rfl, rfl⟩)) | (go_at_call 68; go_must (refine HM.out.mono ?_; rintro e w' ⟨rfl, rfl⟩)))
            go_ret
            exact ⟨ret_bool HZ.out, rfl⟩
          · have q2 : (l == [46, 46]) = false := by simpa using he
            have HZ : Hid (true = nam l) := Lib.hid (by rw [HN.out]; simp [hm, hd, he])
            clear hm HN hd he
            go_enter Tryd.func20, Tryd.ntmps20
            go_wp2_with (first | (go_at_call 67; go_must (refine HP.out.mono ?_; rintro e w' ⟨rfl, rfl⟩)) | (go_at_call 68; go_must (refine HM.out.mono ?_; rintro e w' ⟨rfl, rfl⟩)))
            go_ret
            exact ⟨ret_bool HZ.out, rfl⟩
  · have d1 : decide ((l.length : Int) ≤ 32) = false := decide_eq_false (by omega)
    have HZ : Hid (false = nam l) := Lib.hid (by unfold nam; rw [decide_eq_false h1]; simp)
    clear HP HM
    go_enter Tryd.func20, Tryd.ntmps20
    go_wp2_with fail
    go_ret
    exact ⟨ret_bool HZ.out, rfl⟩

theorem spl_mem_len : ∀ {l now : List UInt8} {p : List UInt8}, p ∈ spl now l → p.length ≤ now.length + l.length
  | [], now, p, h => by simp [spl] at h; subst h; simp
  | c :: l, now, p, h => by
    unfold spl at h
    split at h
    · rcases List.mem_cons.1 h with rfl | h
      · simp
      · have := spl_mem_len h; simp at this ⊢; omega
    · have := spl_mem_len h; simp at this ⊢; omega
theorem parts_mem_len {l p : List UInt8} (h : p ∈ parts l) : p.length ≤ l.length := by
  unfold parts at h
  split at h
  · simp at h
  · have := spl_mem_len h; simpa using this
theorem all_take {α : Type} {f : α → Bool} {l : List α} {k : Nat} (h : k < l.length) (ht : (l.take k).all f = true) (hx : f l[k] = true) : (l.take (k + 1)).all f = true := by
  rw [List.take_succ_eq_append_getElem h, List.all_append, ht]; simp [hx]
theorem all_no {α : Type} {f : α → Bool} {l : List α} {k : Nat} (h : k < l.length) (hx : f l[k] = false) : l.all f = false := by
  rw [List.all_eq_false]; exact ⟨l[k], List.getElem_mem h, by simp [hx]⟩

set_option maxRecDepth 100000 in
set_option maxHeartbeats 1000000 in
theorem right_any (l : List UInt8) (w : World) (hl : l.length ≤ 100000) (hm : Ml w) :
    Calls Tryd.prog 22 #[.string (bstr l)] w fun e w' => e = .returned (.bool (rgt l)) ∧ Below w.heap.size w w' := by
  have HC := Lib.hid (parts_any l w hl hm)
  by_cases h0 : l.length = 0
  · have hl0 : l = [] := List.eq_nil_of_length_eq_zero h0
    subst hl0
    clear HC
    go_enter Tryd.func22, Tryd.ntmps22
    go_wp2_with fail
    go_ret
    exact ⟨rfl, Below.refl _ _⟩
  have q0 : (l.length == 0) = false := by simpa using h0
  have q0' : ((l.length : Int) == 0) = false := by rw [beq_eq_false_iff_ne]; omega
  have q0'' : ¬ l = [] := fun e => h0 (by rw [e]; rfl)
  by_cases h1 : 120 < l.length
  · have d1 : decide ((120 : Int) < l.length) = true := decide_eq_true (by omega)
    have HZ : Hid (false = rgt l) := Lib.hid (by unfold rgt; rw [decide_eq_false (show ¬ l.length ≤ 120 by omega)]; simp)
    clear HC
    go_enter Tryd.func22, Tryd.ntmps22
    go_wp2_with fail
    go_ret
    exact ⟨ret_bool HZ.out, Below.refl _ _⟩
  have d1 : decide ((120 : Int) < l.length) = false := decide_eq_false (by omega)
  have HR : Hid (rgt l = ((parts l).all nam && decide ((parts l).length ≤ 6))) := Lib.hid (by
    unfold rgt; rw [decide_eq_true (show 1 ≤ l.length by omega), decide_eq_true (show l.length ≤ 120 by omega), Bool.true_and, Bool.true_and])
  obtain ⟨P, HP⟩ : ∃ P, Hid (parts l = P) := ⟨_, Lib.hid rfl⟩
  have HPL : Hid (∀ p ∈ P, p.length ≤ l.length) := Lib.hid (fun p hp => by rw [← HP.out] at hp; exact parts_mem_len hp)
  have hpl : P.length ≤ l.length + 1 := by rw [← HP.out]; exact parts_len_le l
  rw [HP.out] at HC HR
  go_enter Tryd.func22, Tryd.ntmps22
  go_wp2_with (go_at_call 27; go_must (refine HC.out.mono ?_; rintro e w2 ⟨v, rfl, hs, hb⟩; have hlen := hs.run_len (P := Tryd.prog) Tryd.underlying22; have HS := Lib.hid hs; have HB := Lib.hid hb; clear hs hb))
  go_loop [18] (fun i => ∃ (k : Nat), k ≤ P.length ∧ i = .int .i64 k ∧ Hid ((P.take k).all nam = true)) (fun i => P.length - (intOf i).toNat)
  case atStart => exact ⟨0, by omega, rfl, Lib.hid rfl⟩
  case round =>
    obtain ⟨k, hk, rfl, HT⟩ := hrel
    by_cases hlt : k < P.length
    · obtain ⟨b1, o1, hb1, hix1, hc1⟩ := HS.out.at (P := Tryd.prog) Tryd.underlying22 cells9 some9 hlt
      have e1 := hc1 0 (by omega)
      simp only [eL, List.getElem?_cons_zero, Nat.add_zero] at e1
      obtain ⟨x, HX⟩ : ∃ x, Hid (P[k] = x) := ⟨_, Lib.hid rfl⟩
      rw [HX.out] at e1
      have hxl := HPL.out P[k] (List.getElem_mem hlt)
      rw [HX.out] at hxl
      have HC2 := Lib.hid (name_any x w2 (by omega))
      clear hc1
      cases hn : nam x with
      | false =>
        rw [hn] at HC2
        have HZ : Hid (false = rgt l) := Lib.hid (by rw [HR.out, all_no hlt (by rw [HX.out]; exact hn)]; rfl)
        clear hn
        go_wp2_with (go_at_call 20; go_must (refine HC2.out.mono ?_; rintro e w' ⟨rfl, rfl⟩))
        go_ret
        exact ⟨ret_bool HZ.out, HB.out⟩
      | true =>
        rw [hn] at HC2
        have HT2 := Lib.hid (all_take hlt HT.out (by rw [HX.out]; exact hn))
        clear hn
        go_wp2_with (go_at_call 20; go_must (refine HC2.out.mono ?_; rintro e w' ⟨rfl, rfl⟩))
        go_round
        case rel => exact ⟨k + 1, by omega, by go_num, HT2⟩
        case measure => simp [intOf]; omega
    · have HZ : Hid (decide ((P.length : Int) ≤ 6) = rgt l) := Lib.hid (by
        have h2 := HT.out
        rw [List.take_of_length_le (by omega)] at h2
        rw [HR.out, h2, Bool.true_and, Bool.eq_iff_iff, decide_eq_true_iff, decide_eq_true_iff]; omega)
      go_wp2_with fail
      go_ret
      exact ⟨ret_bool HZ.out, HB.out⟩
end Go.Proofs.YtopamnfelngkcaaDoor
