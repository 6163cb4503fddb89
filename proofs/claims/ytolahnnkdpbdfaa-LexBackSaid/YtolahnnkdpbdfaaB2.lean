/-
  LexBack: what the program answers, the document's. No condition.
-/
import Derived.Test.YtolahnnkdpbdfaaB1
import Derived.Test.YtolahnnkdpbdfaaJ4
namespace Go.Proofs.Ytolahnnkdpbdfaa
open Go.RowKit Go.Sl

theorem Sl.asTk {w : World} {v : Value} {m : List Lex.Tok} (h : Sl eTok 3 w v m) : Sl eTk 3 w v (m.map Lex.tkOf) := by
  obtain ⟨ao, cap, h1, h2, h3, h4, h5⟩ := h.shp
  refine ⟨ao, cap, by rw [List.length_map]; exact h1, by rw [List.length_map]; exact h2, h3, h4, ?_⟩
  rcases h5 with rfl | ⟨b, off, g1, g2, g3⟩
  · exact .inl rfl
  · refine .inr ⟨b, off, g1, g2, fun k hk j hj => ?_⟩
    have hk' : k < m.length := by simpa using hk
    rw [g3 k hk' j hj, List.getElem_map, eTk_tkOf]

set_option maxRecDepth 100000 in
set_option maxHeartbeats 4000000 in
theorem back_any (s0 : ByteArray) (w : World) : Calls Try.prog 6 #[.string s0] w fun e w' => e = .returned (.bool true) ∧ Below w.heap.size w w' := by
  obtain ⟨l, rfl, -⟩ := bstr_of s0
  by_cases hlong : 400 < l.length
  · go_enter Try.func6, Try.ntmps6
    go_wp2_with (go_at_call 12; go_must (refine (works_any _).mono ?_; rintro e w' ⟨rfl, hb⟩; have HB := Lib.hid hb; clear hb))
    go_ret
    exact ⟨rfl, HB.out⟩
  · obtain ⟨o, ho⟩ : ∃ o, Lex.tokens Lex.one l = o := ⟨_, rfl⟩
    have HT1 := Lib.hid (fun u => ho ▸ tokens_any l u (by omega))
    cases o with
    | error c =>
      obtain ⟨p, c⟩ := c
      obtain ⟨h1, h2⟩ := Lex.tokens_err ho
      have dc : ((c : Int) != 0) = true := by rw [bne, show ((c : Int) == 0) = false by rw [beq_eq_false_iff_ne]; omega]; rfl
      have dc2 : ((c : Int) == 0) = false := by rw [beq_eq_false_iff_ne]; omega
      have dp : decide ((p : Int) ≤ l.length) = true := decide_eq_true (by omega)
      have dp2 : decide ((0 : Int) ≤ p) = true := decide_eq_true (by omega)
      clear ho h1
      go_enter Try.func6, Try.ntmps6
      go_wp2_with (first
        | (go_at_call 13; go_must (refine (HT1.out _).mono ?_; rintro e w' ⟨hb1, rfl⟩; have HB1 := Lib.hid hb1; clear hb1))
        | (go_at_call 12; go_must (refine (works_any _).mono ?_; rintro e w' ⟨rfl, hb3⟩; have HB3 := Lib.hid (HB1.out.trans (hb3.mono HB1.out.size)); clear hb3)))
      go_ret
      exact ⟨rfl, HB3.out⟩
    | ok m =>
      obtain ⟨hl2, hne, hok, htx, hoff, hjn⟩ := Lex.tokens_good ho
      obtain ⟨L, hL⟩ : ∃ L, m.map Lex.tkOf = L := ⟨_, rfl⟩
      have hLm : L.length = m.length := by rw [← hL, List.length_map]
      have hLl : L.length ≤ 1000 := by rw [hLm]; have := Lex.tokens_len ho; omega
      rw [hL] at hok htx hoff hjn
      have HOK := Lib.hid hok
      have HTX := Lib.hid htx
      have HOF := Lib.hid hoff
      have HJN := Lib.hid hjn
      have HLe : Hid (∀ t ∈ L, t.2.1.length ≤ 1000) := Lib.hid fun t ht => by
        obtain ⟨k, hk, rfl⟩ := List.getElem_of_mem ht
        have h1 := Lex.text_step hk rfl
        have h2 := Lex.text_le L (k + 1)
        rw [h1, List.length_append, htx] at h2
        omega
      have HSL : Hid (∀ u v, Sl eTok 3 u v m → Sl eTk 3 u v L) := Lib.hid fun u v h => hL ▸ Sl.asTk h
      clear ho hL hok htx hoff hjn hne hLm
      go_enter Try.func6, Try.ntmps6
      go_wp2_with (go_at_call 13; go_must (refine (HT1.out _).mono ?_; rintro e w1 ⟨hb1, r1, rfl, ho1⟩; have HB1 := Lib.hid hb1; have HV := Lib.hid (HSL.out _ _ (ho1.sl len_eTok)); have hln := HV.out.run_len (P := Try.prog) Try.underlying23; have hmx := HV.out.len_le; clear hb1 ho1))
      go_loopw [6, 7] (fun c i wr => ∃ (k : Nat) (a : List UInt8), k ≤ L.length ∧ i = .int .i64 k ∧ c = .string (bstr a) ∧ Hid (a = Lex.text (L.take k)) ∧ Hid (Lex.okG (L.drop k) = true) ∧ Hid (Below w1.heap.size w1 wr)) (fun _ i _ => L.length - (intOf i).toNat)
      case atStart => exact ⟨0, [], by omega, rfl, rfl, Lib.hid rfl, Lib.hid HOK.out, Lib.hid (Below.refl _ _)⟩
      case round =>
        obtain ⟨k, a, hk, rfl, rfl, HT, HG, HB⟩ := hrel
        have hal : a.length ≤ 200 := by have := Lex.text_le L k; rw [HT.out]; rw [HTX.out] at this; omega
        by_cases hlt : k < L.length
        · obtain ⟨b1, o1, hb1, hix1, hc1⟩ := HV.out.atB HB.out (P := Try.prog) Try.underlying23 cells33 some33 hlt
          have hbw : b1 < wr.heap.size := Nat.lt_of_lt_of_le hb1 HB.out.size
          have e10 := hc1 0 (by omega)
          have e11 := hc1 1 (by omega)
          have e12 := hc1 2 (by omega)
          have hp := HOF.out k hlt
          obtain ⟨⟨K, s, p⟩, hX⟩ : ∃ t, L[k] = t := ⟨_, rfl⟩
          rw [hX, ← HT.out] at hp
          simp only at hp
          subst hp
          have HX := Lib.hid hX
          have hsl : s.length ≤ 1000 := by have := HLe.out _ (List.getElem_mem hlt); rw [hX] at this; exact this
          rw [hX] at e10 e11 e12
          simp only [eTk, List.getElem?_cons_zero, List.getElem?_cons_succ, Nat.add_zero] at e10 e11 e12
          clear hc1 hX
          have hgo := HG.out
          rw [Lex.okG_step hlt HX.out, Bool.and_eq_true, Lex.okTk, Bool.and_eq_true, beq_iff_eq] at hgo
          obtain ⟨⟨hr, hkl⟩, hg2⟩ := hgo
          have HR := Lib.hid (fun u => right_any K s (a.length : Nat) true hr u (by omega))
          have HG2 := Lib.hid hg2
          have HT2 : Hid (a ++ s = Lex.text (L.take (k + 1))) := Lib.hid (by rw [Lex.text_step hlt HX.out, HT.out])
          clear hr hg2
          by_cases hK : K = 9
          · have dK : (K == 9) = true := beq_iff_eq.2 hK
            have hl : k + 1 = L.length := by rw [decide_eq_true hK] at hkl; exact of_decide_eq_true hkl.symm
            have dl : ((k : Int) == (L.length : Int) - 1) = true := by rw [beq_iff_eq]; omega
            clear hK hkl
            go_wp2_with (go_at_call 18; go_must (refine (HR.out _).mono ?_; rintro e w3 ⟨rfl, hb3⟩; have HB3 := Lib.hid (HB.out.trans (hb3.mono HB.out.size)); have y0 := (hb3.cell (p := ⟨b1, o1, none⟩) hbw).trans e10; have y1 := (hb3.cell (p := ⟨b1, o1 + 1, none⟩) hbw).trans e11; clear hb3))
            go_roundw
            case rel => exact ⟨k + 1, a ++ s, by omega, by go_num, rfl, HT2, HG2, HB3⟩
            case measure => simp [intOf] <;> omega
          · have dK : (K == 9) = false := beq_eq_false_iff_ne.2 hK
            have hl : ¬ k + 1 = L.length := by rw [decide_eq_false hK] at hkl; exact of_decide_eq_false hkl.symm
            have dl : ((k : Int) == (L.length : Int) - 1) = false := by rw [beq_eq_false_iff_ne]; omega
            clear hK hkl
            go_wp2_with (go_at_call 18; go_must (refine (HR.out _).mono ?_; rintro e w3 ⟨rfl, hb3⟩; have HB3 := Lib.hid (HB.out.trans (hb3.mono HB.out.size)); have y0 := (hb3.cell (p := ⟨b1, o1, none⟩) hbw).trans e10; have y1 := (hb3.cell (p := ⟨b1, o1 + 1, none⟩) hbw).trans e11; clear hb3))
            go_roundw
            case rel => exact ⟨k + 1, a ++ s, by omega, by go_num, rfl, HT2, HG2, HB3⟩
            case measure => simp [intOf] <;> omega
        · have haL : a = l := by rw [HT.out, List.take_of_length_le (by omega), HTX.out]
          subst haL
          have H1 := Lib.hid (join_any _ L a 0 HJN.out wr (HV.out.ext HB.out) hLl HLe.out)
          go_wp2_with (first
            | (go_at_call 20; go_must (refine H1.out.mono ?_; rintro e1 w2 ⟨rfl, hb2⟩; have HB2 := Lib.hid (HB1.out.trans ((HB.out.trans (hb2.mono HB.out.size)).mono HB1.out.size)); clear hb2))
            | (go_at_call 12; go_must (refine (works_any _).mono ?_; rintro e3 w3 ⟨rfl, hb3⟩; have HB3 := Lib.hid (HB2.out.trans (hb3.mono HB2.out.size)); clear hb3)))
          go_ret
          exact ⟨rfl, HB3.out⟩
end Go.Proofs.Ytolahnnkdpbdfaa
