/-
  Layer 5, the document's: what may be seen, parts, names, paths, patterns, the last stroke. No condition besides what the arguments are.
-/
import Derived.Test.YtopamnfelngkcaaDoorW3
import Derived.Deep.QuietTactic
import Derived.BigQuiet
namespace Go.Proofs.YtopamnfelngkcaaDoor
open Go.RowKit Go.Sl Go.Route
set_option linter.unusedVariables false

set_option maxRecDepth 100000 in
set_option maxHeartbeats 400000 in
theorem rseen_any (l : List UInt8) (w : World) (hl : l.length ≤ 9223372036854775807) :
    Calls Tryd.prog 69 #[.string (bstr l)] w fun e w' => e = .returned (.bool (vis l)) ∧ w = w' := by
  go_enter Tryd.func69, Tryd.ntmps69
  go_wp2_with fail
  go_loop [3] (fun i => ∃ (k : Nat), k ≤ l.length ∧ i = .int .i64 k ∧ Hid (vis (l.take k) = true)) (fun i => l.length - (intOf i).toNat)
  case atStart => exact ⟨0, by omega, rfl, Lib.hid rfl⟩
  case round =>
    obtain ⟨k, hk, rfl, HT⟩ := hrel
    by_cases hlt : k < l.length
    · obtain ⟨x, HX⟩ : ∃ x : Nat, Hid (l[k].toNat = x) := ⟨_, Lib.hid rfl⟩
      by_cases h1 : x < 33
      · have d1 : decide ((l[k].toNat : Int) < 33) = true := decide_eq_true (by rw [HX.out]; omega)
        have HZ := Lib.hid (vis_false hlt (.inl (by rw [HX.out]; exact h1)))
        clear h1
        go_wp2_with fail
        go_ret
        exact ⟨ret_bool HZ.out.symm, rfl⟩
      · have d1 : decide ((l[k].toNat : Int) < 33) = false := decide_eq_false (by rw [HX.out]; omega)
        by_cases h2 : 126 < x
        · have d2 : decide ((126 : Int) < (l[k].toNat : Int)) = true := decide_eq_true (by rw [HX.out]; omega)
          have HZ := Lib.hid (vis_false hlt (.inr (by rw [HX.out]; exact h2)))
          clear h1 h2
          go_wp2_with fail
          go_ret
          exact ⟨ret_bool HZ.out.symm, rfl⟩
        · have d2 : decide ((126 : Int) < (l[k].toNat : Int)) = false := decide_eq_false (by rw [HX.out]; omega)
          have HT2 : Hid (vis (l.take (k + 1)) = true) := Lib.hid (by rw [vis_take l hlt, HT.out, HX.out, decide_eq_true (by omega), decide_eq_true (by omega)]; rfl)
          clear h1 h2
          go_wp2_with fail
          go_round
          case rel => exact ⟨k + 1, by omega, by go_num, HT2⟩
          case measure => simp [intOf]; omega
    · have HZ : Hid (vis l = true) := Lib.hid (by have := HT.out; rwa [List.take_of_length_le (by omega)] at this)
      go_wp2_with fail
      go_ret
      exact ⟨ret_bool HZ.out.symm, rfl⟩


theorem spl_out {l now : List UInt8} {out : List (List UInt8)} {k : Nat} {M : List (List UInt8)} (h : out ++ spl now (l.drop k) = M) : out.length < M.length := by
  have := congrArg List.length h
  rw [List.length_append] at this
  have h2 := List.length_pos_iff.2 (spl_ne now (l.drop k))
  omega
theorem cells5 : Tryd.prog.cellsOf 5 = 1 := by kernel_rfl

set_option maxRecDepth 100000 in
set_option maxHeartbeats 1000000 in
theorem rparts_any (l : List UInt8) (w : World) (hl : l.length ≤ 100000) :
    Calls Tryd.prog 16 #[.string (bstr l)] w fun e w' => ∃ v, e = .returned v ∧ Sl eL 1 w' v (parts l) ∧ Below w.heap.size w w' := by
  by_cases h0 : l = []
  · subst h0
    go_enter Tryd.func16, Tryd.ntmps16
    go_wp2_with fail
    go_ret
    exact ⟨_, rfl, Sl.nil _ _ _, Below.refl _ _⟩
  have h1 : (l == []) = false := by simpa using h0
  have h2 : l.isEmpty = false := by simpa using h0
  obtain ⟨M, HM⟩ : ∃ M, Hid (parts l = M) := ⟨_, Lib.hid rfl⟩
  have HP : Hid ([] ++ spl [] (l.drop 0) = M) := Lib.hid (by rw [← HM.out]; unfold parts; rw [if_neg h0]; rfl)
  have hM : M.length ≤ l.length + 1 := by rw [← HM.out]; exact parts_len_le l
  clear h0
  go_enter Tryd.func16, Tryd.ntmps16
  go_wp2_with fail
  go_loopw [3, 4, 5] (fun o s i wr => ∃ (k : Nat) (now : List UInt8) (out : List (List UInt8)), i = .int .i64 k ∧ s = .string (bstr now) ∧ k ≤ l.length ∧ now.length ≤ k ∧ Hid (out ++ spl now (l.drop k) = M) ∧ Hid (Own eL 1 w.heap.size 9 wr o out) ∧ Hid (Below w.heap.size w wr)) (fun _ _ i _ => l.length - (intOf i).toNat)
  case atStart => exact ⟨0, [], [], rfl, rfl, by omega, by simp, HP, Lib.hid (Own.nil _ _ _ _ _), Lib.hid (Below.refl _ _)⟩
  case round =>
    obtain ⟨k, now, out, rfl, rfl, hk, hn, HS, HO, HW⟩ := hrel
    have hol := spl_out HS.out
    by_cases hlt : k < l.length
    · have hd := List.drop_eq_getElem_cons hlt
      by_cases h47 : l[k] = 47
      · have c1 : ((l[k].toNat : Int) == 47) = true := by rw [h47]; rfl
        have c2 : (l[k].toNat : Int) = 47 := by rw [h47]; rfl
        have HS2 : Hid ((out ++ [now]) ++ spl [] (l.drop (k + 1)) = M) := Lib.hid (by rw [← HS.out, hd, spl, if_pos h47]; simp)
        clear hd h47 HS
        go_wp2_with (at_builtin; go_must (refine wpList_append1 rfl (en := eL) (s := 1) (base := w.heap.size) (e := 9) _ _ 22 rfl (.string .empty) 16 Tryd.underlying22 info9 rfl (by decide) len_eL one_eL _ _ out now rfl (HO.out.alloc _) rfl (Sl.fresh len_eL rfl rfl rfl (by simp [maxLen])) (by simp only [maxLen]; omega) (by omega) (by have := HW.out.size; simp; omega) ?_; intro ov' w6 hown hgr hbel hblk; have HO2 := Lib.hid hown; have HW2 := Lib.hid ((HW.out.alloc HW.out.size _).trans hbel); clear hown hgr hbel hblk))
        go_roundw
        case rel => exact ⟨k + 1, [], _, by go_num, rfl, by omega, by simp, HS2, HO2, HW2⟩
        case measure => simp [intOf]; omega
      · have hne : ¬ (l[k].toNat : Int) = 47 := fun e => h47 (UInt8.toNat_inj.1 (by show l[k].toNat = 47; omega))
        have c1 : ((l[k].toNat : Int) == 47) = false := by rw [beq_eq_false_iff_ne]; exact hne
        have HS2 : Hid (out ++ spl (now ++ [l[k]]) (l.drop (k + 1)) = M) := Lib.hid (by rw [← HS.out, hd, spl, if_neg h47])
        have hone : (l.drop k).take (k + 1 - k) = [l[k]] := by rw [hd, show k + 1 - k = 1 by omega]; rfl
        have hone2 : (l.drop k).take 1 = [l[k]] := by rw [hd]; rfl
        clear hd h47 HS
        go_wp2_with fail
        go_roundw
        case rel => exact ⟨k + 1, now ++ [l[k]], out, by go_num, (by first | rfl | simp), by omega, by simp; omega, HS2, HO, HW⟩
        case measure => simp [intOf]; omega
    · have hd : l.drop k = [] := List.drop_eq_nil_of_le (by omega)
      have HX : Hid (out ++ [now] = M) := Lib.hid (by rw [← HS.out, hd]; rfl)
      clear HS hd
      go_wp2_with (at_builtin; go_must (refine wpList_append1 rfl (en := eL) (s := 1) (base := w.heap.size) (e := 9) _ _ 22 rfl (.string .empty) 16 Tryd.underlying22 info9 rfl (by decide) len_eL one_eL _ _ out now rfl (HO.out.alloc _) rfl (Sl.fresh len_eL rfl rfl rfl (by simp [maxLen])) (by simp only [maxLen]; omega) (by omega) (by have := HW.out.size; simp; omega) ?_; intro ov' w6 hown hgr hbel hblk; have HO2 := Lib.hid hown; have HW2 := Lib.hid ((HW.out.alloc HW.out.size _).trans hbel); clear hown hgr hbel hblk))
      go_ret
      exact ⟨_, rfl, by have := HO2.out.sl len_eL; rw [HX.out] at this; rw [HM.out]; exact this, HW2.out⟩


set_option maxRecDepth 100000 in
set_option maxHeartbeats 1000000 in
theorem rname_any (l : List UInt8) (w : World) (hl : l.length ≤ 100000) :
    Calls Tryd.prog 21 #[.string (bstr l)] w fun e w' => e = .returned (.bool (nam l)) ∧ Below w.heap.size w w' := by
  have HP := Lib.hid (rseen_any l w (by omega))
  have HM := Lib.hid (rparts_any l w hl)
  by_cases h0 : l.length = 0
  · have hl0 : l = [] := List.eq_nil_of_length_eq_zero h0
    subst hl0
    go_enter Tryd.func21, Tryd.ntmps21
    go_wp2_with fail
    go_ret
    exact ⟨rfl, Below.refl _ _⟩
  have hne : l ≠ [] := fun e => h0 (by rw [e]; rfl)
  have hp1 := parts_one hne
  have d0 : decide ((1 : Int) ≤ l.length) = true := decide_eq_true (by omega)
  have d0' : decide (1 ≤ l.length) = true := decide_eq_true (by omega)
  by_cases h1 : l.length ≤ 32
  · have d1 : decide ((l.length : Int) ≤ 32) = true := decide_eq_true (by omega)
    have HN : Hid (nam l = (vis l && decide (¬ (47 : UInt8) ∈ l) && decide (l ≠ [46]) && decide (l ≠ [46, 46]))) := Lib.hid (by
      unfold nam; rw [decide_eq_true (show 1 ≤ l.length by omega), decide_eq_true h1, Bool.true_and, Bool.true_and])
    cases hv : vis l with
    | false =>
      rw [hv] at HP HN
      have HZ : Hid (false = nam l) := Lib.hid (by rw [HN.out]; rfl)
      clear hv HN hp1
      go_enter Tryd.func21, Tryd.ntmps21
      go_wp2_with (go_at_call 69; go_must (refine HP.out.mono ?_; rintro e w' ⟨rfl, rfl⟩))
      go_ret
      exact ⟨ret_bool HZ.out, Below.refl _ _⟩
    | true =>
      rw [hv] at HP HN
      clear hv
      by_cases hm : (47 : UInt8) ∈ l
      · have p1 : ((parts l).length == 1) = false := by rw [beq_eq_false_iff_ne]; exact fun e => (hp1.1 e) hm
        have p2 : (((parts l).length : Int) == 1) = false := by rw [beq_eq_false_iff_ne]; exact fun e => (hp1.1 (by omega)) hm
        clear hp1
        have HZ : Hid (false = nam l) := Lib.hid (by rw [HN.out]; simp [hm])
        clear hm HN
        go_enter Tryd.func21, Tryd.ntmps21
        go_wp2_with (first | (go_at_call 69; go_must (refine HP.out.mono ?_; rintro e w' ⟨rfl, rfl⟩)) | (go_at_call 16; go_must (refine HM.out.mono ?_; rintro e w2 ⟨v2, rfl, hs, hb⟩; have hlen := hs.run_len (P := Tryd.prog) Tryd.underlying22; have HB := Lib.hid hb; clear hs hb)))
        go_ret
        exact ⟨ret_bool HZ.out, HB.out⟩
      · have p1 : (parts l).length = 1 := hp1.2 hm
        have p2 : ((parts l).length : Int) = 1 := by omega
        clear hp1
        by_cases hd : l = [46]
        · have q1 : (l == [46]) = true := by simp [hd]
          have HZ : Hid (false = nam l) := Lib.hid (by rw [HN.out]; simp [hd])
          clear hm HN hd
          go_enter Tryd.func21, Tryd.ntmps21
          go_wp2_with (first | (go_at_call 69; go_must (refine HP.out.mono ?_; rintro e w' ⟨rfl, rfl⟩)) | (go_at_call 16; go_must (refine HM.out.mono ?_; rintro e w2 ⟨v2, rfl, hs, hb⟩; have hlen := hs.run_len (P := Tryd.prog) Tryd.underlying22; have HB := Lib.hid hb; clear hs hb)))
          go_ret
          exact ⟨ret_bool HZ.out, HB.out⟩
        · have q1 : (l == [46]) = false := by simpa using hd
          by_cases he : l = [46, 46]
          · have q2 : (l == [46, 46]) = true := by simp [he]
            have HZ : Hid (false = nam l) := Lib.hid (by rw [HN.out]; simp [he])
            clear hm HN hd he
            go_enter Tryd.func21, Tryd.ntmps21
            go_wp2_with (first | (go_at_call 69; go_must (refine HP.out.mono ?_; rintro e w' ⟨rfl, rfl⟩)) | (go_at_call 16; go_must (refine HM.out.mono ?_; rintro e w2 ⟨v2, rfl, hs, hb⟩; have hlen := hs.run_len (P := Tryd.prog) Tryd.underlying22; have HB := Lib.hid hb; clear hs hb)))
            go_ret
            exact ⟨ret_bool HZ.out, HB.out⟩
          · have q2 : (l == [46, 46]) = false := by simpa using he
            have HZ : Hid (true = nam l) := Lib.hid (by rw [HN.out]; simp [hm, hd, he])
            clear hm HN hd he
            go_enter Tryd.func21, Tryd.ntmps21
            go_wp2_with (first | (go_at_call 69; go_must (refine HP.out.mono ?_; rintro e w' ⟨rfl, rfl⟩)) | (go_at_call 16; go_must (refine HM.out.mono ?_; rintro e w2 ⟨v2, rfl, hs, hb⟩; have hlen := hs.run_len (P := Tryd.prog) Tryd.underlying22; have HB := Lib.hid hb; clear hs hb)))
            go_ret
            exact ⟨ret_bool HZ.out, HB.out⟩
  · have d1 : decide ((l.length : Int) ≤ 32) = false := decide_eq_false (by omega)
    have HZ : Hid (false = nam l) := Lib.hid (by unfold nam; rw [decide_eq_false h1]; simp)
    clear HP HM hp1
    go_enter Tryd.func21, Tryd.ntmps21
    go_wp2_with fail
    go_ret
    exact ⟨ret_bool HZ.out, Below.refl _ _⟩

end Go.Proofs.YtopamnfelngkcaaDoor
