/-
  Layer 20, the document's: the place of a line; Numbers. No condition besides what the arguments are.
-/
import Derived.Test.YtibebmdpjaknpaaW7
namespace Go.Proofs.Ytibebmdpjaknpaa
open Go.RowKit Go.Sl
set_option linter.unusedVariables false

/-- the place of a line among those that are known; -1: it is not -/
def pl (ks : List (List UInt8)) (s : List UInt8) : Int := if s ∈ ks then (Line.fst ks s : Nat) else -1

theorem own_diff {α β : Type} {en : α → List Value} {en' : β → List Value} {s s' base base' : Nat} {e e' : TypeId} {v u : Value} {l : List α} {m : List β} {W : World} (h : Sl.Own en s base e W v l) (h2 : Sl.Own en' s' base' e' W u m) (he : e ≠ e') : v.ownBlock = none ∨ v.ownBlock ≠ u.ownBlock := by
  rcases h.2 with ⟨rfl, _⟩ | ⟨g', cap, cur, rfl, _, hg', _⟩
  · exact .inl rfl
  · right; intro e1
    exact h2.ne_elem hg' he e1.symm

set_option maxHeartbeats 400000 in
theorem first_any (v : Value) (ks : List (List UInt8)) (s : List UInt8) (w : World) (h : Sl eL 1 w v ks) :
    Calls Try.prog 20 #[v, .string (bstr s)] w fun e w' => e = .returned (.int .i64 (pl ks s)) ∧ w = w' := by
  have hlen := h.run_len (P := Try.prog) Try.underlying22
  have hmax := h.len_le
  go_enter Try.func20, Try.ntmps20
  go_wp2_with fail
  go_loop [5] (fun i => ∃ (k : Nat), k ≤ ks.length ∧ i = .int .i64 k ∧ Hid (¬ s ∈ ks.take k)) (fun i => ks.length - (intOf i).toNat)
  case atStart => exact ⟨0, by omega, rfl, Lib.hid (by simp)⟩
  case round =>
    obtain ⟨k, hk, rfl, HN⟩ := hrel
    by_cases hlt : k < ks.length
    · obtain ⟨b1, o1, hb1, hix1, hc1⟩ := h.at (P := Try.prog) Try.underlying22 cells9 some9 hlt
      have e1 := hc1 0 (by omega)
      simp only [eL, List.getElem?_cons_zero, Nat.add_zero] at e1
      obtain ⟨x, HX⟩ : ∃ x, Hid (ks[k] = x) := ⟨_, Lib.hid rfl⟩
      rw [HX.out] at e1
      clear hc1
      by_cases hxs : x = s
      · have hb : (x == s) = true := by simp [hxs]
        have HZ : Hid ((k : Int) = pl ks s) := Lib.hid (by
          have hin : s ∈ ks := by rw [← hxs, ← HX.out]; exact List.getElem_mem hlt
          unfold pl
          rw [if_pos hin]
          have h3 : Line.fst ks s = k := by
            have := Line.fst_at hlt (by rw [HX.out, hxs]; exact HN.out)
            rwa [HX.out, hxs] at this
          rw [h3])
        clear hxs HX
        go_wp2_with fail
        go_ret
        exact ⟨ret_int HZ.out, rfl⟩
      · have hb : (x == s) = false := by simp [hxs]
        have HN2 : Hid (¬ s ∈ ks.take (k + 1)) := Lib.hid (by
          rw [take_snoc' ks k hlt, List.mem_append, HX.out]
          rintro (h1 | h1)
          · exact HN.out h1
          · simp at h1; exact hxs h1.symm)
        clear hxs
        go_wp2_with fail
        go_round
        case rel => exact ⟨k + 1, by omega, by go_num, HN2⟩
        case measure => simp [intOf]; omega
    · have HZ : Hid (-1 = pl ks s) := Lib.hid (by
        have h1 := HN.out
        rw [List.take_of_length_le (by omega)] at h1
        unfold pl; rw [if_neg h1])
      go_wp2_with fail
      go_ret
      exact ⟨ret_int HZ.out, rfl⟩

theorem pl_in {ks : List (List UInt8)} {s : List UInt8} (h : s ∈ ks) : pl ks s = (Line.fst ks s : Nat) := if_pos h
theorem pl_out {ks : List (List UInt8)} {s : List UInt8} (h : ¬ s ∈ ks) : pl ks s = -1 := if_neg h
theorem apart_own {α β : Type} {en : α → List Value} {en' : β → List Value} {s s' base base' : Nat} {e e' : TypeId} {v u : Value} {l : List α} {m : List β} {W : World} (h : Sl.Own en s base e W v l) (h2 : Sl.Own en' s' base' e' W u m) (he : e ≠ e') : Apart v u := own_diff h h2 he

theorem apart_symm {v q : Value} (h : Apart v q) : Apart q v := by
  unfold Apart at *
  rcases h with h | h
  · by_cases e : q.ownBlock = none
    · exact .inl e
    · right; rw [h]; exact e
  · exact .inr (Ne.symm h)
/-- one round of the document's Numbers: what is known and numbered, a line more -/
theorem fst_snoc' {ks : List (List UInt8)} {s : List UInt8} (h : ¬ s ∈ ks) : pl (ks ++ [s]) s = (ks.length : Nat) := by
  rw [pl_in (by simp), Line.fst_snoc h]

set_option maxRecDepth 100000 in
set_option maxHeartbeats 2000000 in
theorem rnums_any (va vb : Value) (a b : List (List UInt8)) (w : World) (ha : Sl eL 1 w va a) (hb : Sl eL 1 w vb b) (la : a.length ≤ 1000) (lb : b.length ≤ 1000) :
    Calls Try.prog 8 #[va, vb] w fun e w' => ∃ x y, e = .returned (.tuple #[x, y]) ∧ Sl.Own eInt 1 w.heap.size 3 w' x (zn (Line.nums [] a)) ∧ Sl.Own eInt 1 w.heap.size 3 w' y (zn (Line.nums (Line.kn [] a) b)) ∧ Below w.heap.size w w' := by
  have hlen := ha.run_len (P := Try.prog) Try.underlying22
  have hlen2 := hb.run_len (P := Try.prog) Try.underlying22
  go_enter Try.func8, Try.ntmps8
  go_wp2_with fail
  go_loopw [6, 7, 9] (fun q x i wr => ∃ (k : Nat), i = .int .i64 k ∧ k ≤ a.length ∧ Hid (Sl.Own eL 1 w.heap.size 9 wr q (Line.kn [] (a.take k))) ∧ Hid (Sl.Own eInt 1 w.heap.size 3 wr x (zn (Line.nums [] (a.take k)))) ∧ Hid (Below w.heap.size w wr)) (fun _ _ i _ => a.length - (intOf i).toNat)
  case atStart => exact ⟨0, rfl, by omega, Lib.hid (Sl.Own.nil _ _ _ _ _), Lib.hid (Sl.Own.nil _ _ _ _ _), Lib.hid (Below.refl _ _)⟩
  case round =>
    obtain ⟨k, rfl, hk, HQ, HO, HW⟩ := hrel
    by_cases hlt : k < a.length
    · obtain ⟨b2, o2, hb2, hix2, hc2⟩ := ha.atB HW.out (P := Try.prog) Try.underlying22 cells9 some9 hlt
      have e1 := hc2 0 (by omega)
      simp only [eL, List.getElem?_cons_zero, Nat.add_zero] at e1
      obtain ⟨s, HS⟩ : ∃ s, Hid (a[k] = s) := ⟨_, Lib.hid rfl⟩
      rw [HS.out] at e1
      obtain ⟨KS, HKS⟩ : ∃ KS, Hid (Line.kn [] (a.take k) = KS) := ⟨_, Lib.hid rfl⟩
      rw [HKS.out] at HQ
      have hKSl : KS.length ≤ 2000 := by
        rw [← HKS.out]
        have := Line.kn_len ([] : List (List UInt8)) (a.take k)
        rw [List.length_take] at this
        simp at this; omega
      have HC := Lib.hid (first_any _ KS s wr (HQ.out.sl len_eL))
      clear hc2
      by_cases hs : s ∈ KS
      · rw [pl_in hs] at HC
        have HT := Lib.hid (Line.take_in hlt (by rw [HS.out, HKS.out]; exact hs))
        clear hs
        go_wp2_with (first
          | (go_at_call 20; go_must (refine HC.out.mono ?_; rintro e w' ⟨rfl, rfl⟩))
          | (at_builtin; go_must (refine wpList_append1 rfl (en := eInt) (s := 1) (base := w.heap.size) (e := 3) _ _ 24 rfl (.int .i64 0) 8 Try.underlying24 info3 rfl (by decide) len_eInt one_eInt _ _ (zn (Line.nums [] (a.take k))) ((Line.fst KS s : Nat) : Int) rfl (HO.out.alloc _) rfl (Sl.fresh len_eInt rfl rfl rfl (by simp [maxLen])) (by rw [zn_len, Line.nums_len]; simp only [maxLen]; rw [List.length_take]; omega) (by rw [zn_len, Line.nums_len, List.length_take]; omega) (by have := HW.out.size; simp; omega) ?_; intro ov' w6 hown6 hgr6 hbel6 hblk6; have HO2 := Lib.hid hown6; have HG2 := Lib.hid hgr6; have HB2 := Lib.hid hbel6; have HK2 := Lib.hid hblk6; clear hown6 hgr6 hbel6 hblk6)))
        have hQ6 := (HQ.out.alloc (.cells #[.int .i64 (Line.fst KS s : Nat)] 3)).kept HG2.out (own_diff HQ.out HO.out (by decide))
        have hW6 := (HW.out.alloc HW.out.size (.cells #[.int .i64 (Line.fst KS s : Nat)] 3)).trans HB2.out
        skip
        go_roundw
        case rel => exact ⟨k + 1, by go_num, by omega, Lib.hid (by rw [HT.out.2, HKS.out]; exact hQ6), Lib.hid (by rw [HT.out.1, zn_snoc, HKS.out, HS.out]; exact HO2.out), Lib.hid hW6⟩
        case measure => simp [intOf]; omega
      · rw [pl_out hs] at HC
        have HT := Lib.hid (Line.take_out hlt (by rw [HS.out, HKS.out]; exact hs))
        have HN := Lib.hid hs
        clear hs
        go_wp2_with (first
          | (have _g := HQ2.out; go_at_call 20; go_must (refine HC5.out.mono ?_; rintro e w' ⟨rfl, rfl⟩))
          | (have _g := HQ2.out; (at_builtin; go_must (refine wpList_append1 rfl (en := eInt) (s := 1) (base := w.heap.size) (e := 3) _ _ 24 rfl (.int .i64 0) 8 Try.underlying24 info3 rfl (by decide) len_eInt one_eInt _ _ (zn (Line.nums [] (a.take k))) ((KS.length : Nat) : Int) rfl (HO3.out.alloc _) rfl (Sl.fresh len_eInt rfl rfl rfl (by simp [maxLen])) (by rw [zn_len, Line.nums_len]; simp only [maxLen]; rw [List.length_take]; omega) (by rw [zn_len, Line.nums_len, List.length_take]; omega) (by have := HW3.out.size; simp; omega) ?_; intro ov' w6 hown6 hgr6 hbel6 hblk6; have HO2 := Lib.hid hown6; have HG2 := Lib.hid hgr6; have HB2 := Lib.hid hbel6; have HK2 := Lib.hid hblk6; clear hown6 hgr6 hbel6 hblk6)))
          | (go_at_call 20; go_must (refine HC.out.mono ?_; rintro e w' ⟨rfl, rfl⟩))
          | (at_builtin; go_must (refine wpList_append1 rfl (en := eL) (s := 1) (base := w.heap.size) (e := 9) _ _ 22 rfl (.string .empty) 16 Try.underlying22 info9 rfl (by decide) len_eL one_eL _ _ KS s rfl (HQ.out.alloc _) rfl (Sl.fresh len_eL rfl rfl rfl (by simp [maxLen])) (by simp only [maxLen]; omega) (by omega) (by have := HW.out.size; simp; omega) ?_; intro qv' w5 hown5 hgr5 hbel5 hblk5; have HQ2 := Lib.hid hown5; have HO3 := Lib.hid ((HO.out.alloc (.cells #[.string (bstr s)] 9)).kept hgr5 (own_diff HO.out HQ.out (by decide))); have HW3 := Lib.hid ((HW.out.alloc HW.out.size _).trans hbel5); have e5 := (HW3.out.cell (p := ⟨b2, o2, none⟩) hb2).trans ((HW.out.cell (p := ⟨b2, o2, none⟩) hb2).symm.trans e1); have HC5 := Lib.hid (first_any _ (KS ++ [s]) s w5 (HQ2.out.sl len_eL)); rw [fst_snoc' HN.out] at HC5; clear hown5 hgr5 hbel5 hblk5)))
        have hQ6 := (HQ2.out.alloc (.cells #[.int .i64 (KS.length : Nat)] 3)).kept HG2.out (own_diff HQ2.out HO3.out (by decide))
        have hW6 := (HW3.out.alloc HW3.out.size (.cells #[.int .i64 (KS.length : Nat)] 3)).trans HB2.out
        skip
        go_roundw
        case rel => exact ⟨k + 1, by go_num, by omega, Lib.hid (by rw [HT.out.2, HKS.out, HS.out]; exact hQ6), Lib.hid (by rw [HT.out.1, zn_snoc, HKS.out]; exact HO2.out), Lib.hid hW6⟩
        case measure => simp [intOf]; omega
    · have HE : Hid (a.take k = a) := Lib.hid (List.take_of_length_le (by omega))
      rw [HE.out] at HQ HO
      clear HE
      go_wp2_with fail
      go_loopw [6, 8, 10] (fun q x i wr => ∃ (k : Nat), i = .int .i64 k ∧ k ≤ b.length ∧ Hid (Sl.Own eL 1 w.heap.size 9 wr q (Line.kn (Line.kn [] a) (b.take k))) ∧ Hid (Sl.Own eInt 1 w.heap.size 3 wr x (zn (Line.nums (Line.kn [] a) (b.take k)))) ∧ Hid (Below w.heap.size w wr) ∧ Hid (Sl.Own eInt 1 w.heap.size 3 wr u7 (zn (Line.nums [] a))) ∧ Hid (Apart u7 x)) (fun _ _ i _ => b.length - (intOf i).toNat)
      case atStart => exact ⟨0, rfl, by omega, HQ, Lib.hid (Sl.Own.nil _ _ _ _ _), HW, HO, Lib.hid (apart_symm (.inl rfl))⟩
      case round =>
        obtain ⟨k, rfl, hk, HQ, HO, HW, HX, HA⟩ := hrel
        by_cases hlt : k < b.length
        · obtain ⟨b2, o2, hb2, hix2, hc2⟩ := hb.atB HW.out (P := Try.prog) Try.underlying22 cells9 some9 hlt
          have e1 := hc2 0 (by omega)
          simp only [eL, List.getElem?_cons_zero, Nat.add_zero] at e1
          obtain ⟨s, HS⟩ : ∃ s, Hid (b[k] = s) := ⟨_, Lib.hid rfl⟩
          rw [HS.out] at e1
          obtain ⟨KS, HKS⟩ : ∃ KS, Hid (Line.kn (Line.kn [] a) (b.take k) = KS) := ⟨_, Lib.hid rfl⟩
          rw [HKS.out] at HQ
          have hKSl : KS.length ≤ 2000 := by
            rw [← HKS.out]
            have := Line.kn_len ((Line.kn [] a) : List (List UInt8)) (b.take k)
            rw [List.length_take] at this
            have h7 := Line.kn_len ([] : List (List UInt8)) a; simp at h7; omega
          have HC := Lib.hid (first_any _ KS s wr (HQ.out.sl len_eL))
          clear hc2
          by_cases hs : s ∈ KS
          · rw [pl_in hs] at HC
            have HT := Lib.hid (Line.take_in hlt (by rw [HS.out, HKS.out]; exact hs))
            clear hs
            go_wp2_with (first
              | (go_at_call 20; go_must (refine HC.out.mono ?_; rintro e w' ⟨rfl, rfl⟩))
              | (at_builtin; go_must (refine wpList_append1 rfl (en := eInt) (s := 1) (base := w.heap.size) (e := 3) _ _ 24 rfl (.int .i64 0) 8 Try.underlying24 info3 rfl (by decide) len_eInt one_eInt _ _ (zn (Line.nums (Line.kn [] a) (b.take k))) ((Line.fst KS s : Nat) : Int) rfl (HO.out.alloc _) rfl (Sl.fresh len_eInt rfl rfl rfl (by simp [maxLen])) (by rw [zn_len, Line.nums_len]; simp only [maxLen]; rw [List.length_take]; omega) (by rw [zn_len, Line.nums_len, List.length_take]; omega) (by have := HW.out.size; simp; omega) ?_; intro ov' w6 hown6 hgr6 hbel6 hblk6; have HO2 := Lib.hid hown6; have HG2 := Lib.hid hgr6; have HB2 := Lib.hid hbel6; have HK2 := Lib.hid hblk6; clear hown6 hgr6 hbel6 hblk6)))
            have hQ6 := (HQ.out.alloc (.cells #[.int .i64 (Line.fst KS s : Nat)] 3)).kept HG2.out (own_diff HQ.out HO.out (by decide))
            have hW6 := (HW.out.alloc HW.out.size (.cells #[.int .i64 (Line.fst KS s : Nat)] 3)).trans HB2.out
            have hx6 := (Mv.append (en := eInt) (s := 1) (base := w.heap.size) (e := 3) HG2.out HK2.out) _ _ (HX.out.alloc (.cells #[.int .i64 (Line.fst KS s : Nat)] 3)) HA.out
            go_roundw
            case rel => exact ⟨k + 1, by go_num, by omega, Lib.hid (by rw [HT.out.2, HKS.out]; exact hQ6), Lib.hid (by rw [HT.out.1, zn_snoc, HKS.out, HS.out]; exact HO2.out), Lib.hid hW6, Lib.hid hx6.1, Lib.hid hx6.2⟩
            case measure => simp [intOf]; omega
          · rw [pl_out hs] at HC
            have HT := Lib.hid (Line.take_out hlt (by rw [HS.out, HKS.out]; exact hs))
            have HN := Lib.hid hs
            clear hs
            go_wp2_with (first
              | (have _g := HQ2.out; go_at_call 20; go_must (refine HC5.out.mono ?_; rintro e w' ⟨rfl, rfl⟩))
              | (have _g := HQ2.out; (at_builtin; go_must (refine wpList_append1 rfl (en := eInt) (s := 1) (base := w.heap.size) (e := 3) _ _ 24 rfl (.int .i64 0) 8 Try.underlying24 info3 rfl (by decide) len_eInt one_eInt _ _ (zn (Line.nums (Line.kn [] a) (b.take k))) ((KS.length : Nat) : Int) rfl (HO3.out.alloc _) rfl (Sl.fresh len_eInt rfl rfl rfl (by simp [maxLen])) (by rw [zn_len, Line.nums_len]; simp only [maxLen]; rw [List.length_take]; omega) (by rw [zn_len, Line.nums_len, List.length_take]; omega) (by have := HW3.out.size; simp; omega) ?_; intro ov' w6 hown6 hgr6 hbel6 hblk6; have HO2 := Lib.hid hown6; have HG2 := Lib.hid hgr6; have HB2 := Lib.hid hbel6; have HK2 := Lib.hid hblk6; clear hown6 hgr6 hbel6 hblk6)))
              | (go_at_call 20; go_must (refine HC.out.mono ?_; rintro e w' ⟨rfl, rfl⟩))
              | (at_builtin; go_must (refine wpList_append1 rfl (en := eL) (s := 1) (base := w.heap.size) (e := 9) _ _ 22 rfl (.string .empty) 16 Try.underlying22 info9 rfl (by decide) len_eL one_eL _ _ KS s rfl (HQ.out.alloc _) rfl (Sl.fresh len_eL rfl rfl rfl (by simp [maxLen])) (by simp only [maxLen]; omega) (by omega) (by have := HW.out.size; simp; omega) ?_; intro qv' w5 hown5 hgr5 hbel5 hblk5; have HQ2 := Lib.hid hown5; have HO3 := Lib.hid ((HO.out.alloc (.cells #[.string (bstr s)] 9)).kept hgr5 (own_diff HO.out HQ.out (by decide))); have HX3 := Lib.hid ((HX.out.alloc (.cells #[.string (bstr s)] 9)).kept hgr5 (own_diff HX.out HQ.out (by decide))); have HW3 := Lib.hid ((HW.out.alloc HW.out.size _).trans hbel5); have e5 := (HW3.out.cell (p := ⟨b2, o2, none⟩) hb2).trans ((HW.out.cell (p := ⟨b2, o2, none⟩) hb2).symm.trans e1); have HC5 := Lib.hid (first_any _ (KS ++ [s]) s w5 (HQ2.out.sl len_eL)); rw [fst_snoc' HN.out] at HC5; clear hown5 hgr5 hbel5 hblk5)))
            have hQ6 := (HQ2.out.alloc (.cells #[.int .i64 (KS.length : Nat)] 3)).kept HG2.out (own_diff HQ2.out HO3.out (by decide))
            have hW6 := (HW3.out.alloc HW3.out.size (.cells #[.int .i64 (KS.length : Nat)] 3)).trans HB2.out
            have hx6 := (Mv.append (en := eInt) (s := 1) (base := w.heap.size) (e := 3) HG2.out HK2.out) _ _ (HX3.out.alloc (.cells #[.int .i64 (KS.length : Nat)] 3)) HA.out
            go_roundw
            case rel => exact ⟨k + 1, by go_num, by omega, Lib.hid (by rw [HT.out.2, HKS.out, HS.out]; exact hQ6), Lib.hid (by rw [HT.out.1, zn_snoc, HKS.out]; exact HO2.out), Lib.hid hW6, Lib.hid hx6.1, Lib.hid hx6.2⟩
            case measure => simp [intOf]; omega
        · have HE : Hid (b.take k = b) := Lib.hid (List.take_of_length_le (by omega))
          rw [HE.out] at HQ HO
          clear HE
          go_wp2_with fail
          go_ret2
          exact ⟨_, _, rfl, HX.out, HO.out, HW.out⟩

end Go.Proofs.Ytibebmdpjaknpaa
