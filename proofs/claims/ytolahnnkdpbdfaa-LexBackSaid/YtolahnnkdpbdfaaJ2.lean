/-
  Walks of layer 27: Join, the program's. Tokens are bounded in number and length.
-/
import Derived.Test.YtolahnnkdpbdfaaJ1
namespace Go.Proofs.Ytolahnnkdpbdfaa
open Go.RowKit Go.Sl

theorem ret_join {x : List UInt8} {e : Nat} {y : ByteArray} {f : Int} (h1 : y = bstr x) (h2 : f = e) : Ending.returned (.tuple #[.string y, .int .i64 f]) = .returned (.tuple #[.string (bstr x), .int .i64 (e : Nat)]) := by rw [h1, h2]
theorem below_step {w u v : World} {o : Obj} (h : Below w.heap.size w u) (hb : Below (u.alloc o).heap.size (u.alloc o) v) : Below w.heap.size w v :=
  (h.alloc h.size o).trans (hb.mono (h.alloc h.size o).size)
theorem copy_at {u v : World} {a b c : Value} (hb : Below (u.alloc (.cells #[a, b, c] 33)).heap.size (u.alloc (.cells #[a, b, c] 33)) v) : v.cell? ⟨u.heap.size, 0, none⟩ = some a :=
  (three_cells ((hb.block _ (by simp)).trans (heap_alloc_new _ _))).2.1
theorem join_bad {l : List Lex.Tk} {x : List UInt8} {e : Nat} (hj : Lex.join l = (x, e)) (h : Lex.okG l = false) : (⟨#[]⟩ : ByteArray) = bstr x ∧ (40 : Int) = e := by
  rw [Lex.join, if_pos (.inr h)] at hj; cases hj; exact ⟨rfl, rfl⟩
theorem join_nil {x : List UInt8} {e : Nat} (hj : Lex.join [] = (x, e)) : (⟨#[]⟩ : ByteArray) = bstr x ∧ (40 : Int) = e := by
  rw [Lex.join, if_pos (.inl rfl)] at hj; cases hj; exact ⟨rfl, rfl⟩
theorem join_long {l : List Lex.Tk} {x : List UInt8} {e : Nat} (hj : Lex.join l = (x, e)) (h0 : l ≠ []) (h : Lex.okG l = true) (h2 : 200 < (Lex.text l).length) : (⟨#[]⟩ : ByteArray) = bstr x ∧ (3 : Int) = e := by
  rw [Lex.join, if_neg (by simp [h0, h]), if_pos h2] at hj; cases hj; exact ⟨rfl, rfl⟩
theorem join_good {l : List Lex.Tk} {x : List UInt8} {e : Nat} (hj : Lex.join l = (x, e)) (h0 : l ≠ []) (h : Lex.okG l = true) (h2 : ¬ 200 < (Lex.text l).length) : bstr (Lex.text l) = bstr x ∧ (0 : Int) = e := by
  rw [Lex.join, if_neg (by simp [h0, h]), if_neg h2] at hj; cases hj; exact ⟨rfl, rfl⟩

set_option maxRecDepth 100000 in
set_option maxHeartbeats 2000000 in
theorem join_any (v : Value) (l : List Lex.Tk) (x : List UInt8) (e : Nat) (hj : Lex.join l = (x, e)) (w : World) (h : Sl eTk 3 w v l) (hlen : l.length ≤ 1000) (hs : ∀ t ∈ l, t.2.1.length ≤ 1000) :
    Calls Try.prog 20 #[v] w fun e' w' => e' = .returned (.tuple #[.string (bstr x), .int .i64 (e : Nat)]) ∧ Below w.heap.size w w' := by
  have hln := h.run_len (P := Try.prog) Try.underlying23
  have HJ := Lib.hid hj
  have HS := Lib.hid hs
  clear hj hs
  go_enter Try.func20, Try.ntmps20
  go_wp2_with fail
  go_loopw [11] (fun i wr => ∃ (k : Nat), k ≤ l.length ∧ i = .int .i64 k ∧ Hid (Lex.okG l = Lex.okG (l.drop k)) ∧ Hid (Below w.heap.size w wr)) (fun i _ => l.length - (intOf i).toNat)
  case atStart => exact ⟨0, by omega, rfl, Lib.hid (by simp), Lib.hid (Below.refl _ _)⟩
  case round =>
    obtain ⟨k, hk, rfl, HT, HB⟩ := hrel
    by_cases hlt : k < l.length
    · obtain ⟨b1, o1, hb1, hix1, hc1⟩ := h.atB HB.out (P := Try.prog) Try.underlying23 cells33 some33 hlt
      have e10 := hc1 0 (by omega)
      have e11 := hc1 1 (by omega)
      have e12 := hc1 2 (by omega)
      obtain ⟨⟨K, s, p⟩, HX⟩ : ∃ t, Hid (l[k] = t) := ⟨_, Lib.hid rfl⟩
      have hsl : s.length ≤ 1000 := by have := HS.out _ (List.getElem_mem hlt); rw [HX.out] at this; exact this
      rw [HX.out] at e10 e11 e12
      simp only [eTk, List.getElem?_cons_zero, List.getElem?_cons_succ, Nat.add_zero] at e10 e11 e12
      clear hc1
      obtain ⟨r, hr⟩ : ∃ r, Lex.right K s p = r := ⟨_, rfl⟩
      have HR := Lib.hid (fun u => right_any K s p r hr u (by omega))
      have HO := Lib.hid (show Lex.okG l = ((r && (decide (K = 9) == decide (k + 1 = l.length))) && Lex.okG (l.drop (k + 1))) by rw [HT.out, Lex.okG_step hlt HX.out, Lex.okTk, hr])
      clear hr
      cases r with
      | false =>
        have HZ := Lib.hid (join_bad HJ.out (by rw [HO.out]; simp))
        go_wp2_with (go_at_call 18; go_must (refine (HR.out _).mono ?_; rintro e w3 ⟨rfl, hb3⟩; have HB3 := Lib.hid (below_step HB.out hb3); have y0 := copy_at hb3; clear hb3))
        go_ret2
        exact ⟨ret_join HZ.out.1 HZ.out.2, HB3.out⟩
      | true =>
        by_cases hK : K = 9
        · have dK : (K == 9) = true := beq_iff_eq.2 hK
          by_cases hl : k + 1 = l.length
          · have dl : ((k : Int) == (l.length : Int) - 1) = true := by rw [beq_iff_eq]; omega
            have HT2 : Hid (Lex.okG l = Lex.okG (l.drop (k + 1))) := Lib.hid (by rw [HO.out, decide_eq_true hK, decide_eq_true hl]; simp)
            clear hK
            go_wp2_with (go_at_call 18; go_must (refine (HR.out _).mono ?_; rintro e w3 ⟨rfl, hb3⟩; have HB3 := Lib.hid (below_step HB.out hb3); have y0 := copy_at hb3; clear hb3))
            go_roundw
            case rel => exact ⟨k + 1, by omega, by go_num, HT2, HB3⟩
            case measure => simp [intOf] <;> omega
          · have dl : ((k : Int) == (l.length : Int) - 1) = false := by rw [beq_eq_false_iff_ne]; omega
            have HZ := Lib.hid (join_bad HJ.out (by rw [HO.out, decide_eq_true hK, decide_eq_false hl]; simp))
            clear hK
            go_wp2_with (go_at_call 18; go_must (refine (HR.out _).mono ?_; rintro e w3 ⟨rfl, hb3⟩; have HB3 := Lib.hid (below_step HB.out hb3); have y0 := copy_at hb3; clear hb3))
            go_ret2
            exact ⟨ret_join HZ.out.1 HZ.out.2, HB3.out⟩
        · have dK : (K == 9) = false := beq_eq_false_iff_ne.2 hK
          by_cases hl : k + 1 = l.length
          · have dl : ((k : Int) == (l.length : Int) - 1) = true := by rw [beq_iff_eq]; omega
            have HZ := Lib.hid (join_bad HJ.out (by rw [HO.out, decide_eq_false hK, decide_eq_true hl]; simp))
            clear hK
            go_wp2_with (go_at_call 18; go_must (refine (HR.out _).mono ?_; rintro e w3 ⟨rfl, hb3⟩; have HB3 := Lib.hid (below_step HB.out hb3); have y0 := copy_at hb3; clear hb3))
            go_ret2
            exact ⟨ret_join HZ.out.1 HZ.out.2, HB3.out⟩
          · have dl : ((k : Int) == (l.length : Int) - 1) = false := by rw [beq_eq_false_iff_ne]; omega
            have HT2 : Hid (Lex.okG l = Lex.okG (l.drop (k + 1))) := Lib.hid (by rw [HO.out, decide_eq_false hK, decide_eq_false hl]; simp)
            clear hK
            go_wp2_with (go_at_call 18; go_must (refine (HR.out _).mono ?_; rintro e w3 ⟨rfl, hb3⟩; have HB3 := Lib.hid (below_step HB.out hb3); have y0 := copy_at hb3; clear hb3))
            go_roundw
            case rel => exact ⟨k + 1, by omega, by go_num, HT2, HB3⟩
            case measure => simp [intOf] <;> omega
    · have HOK : Hid (Lex.okG l = true) := Lib.hid (by rw [HT.out, List.drop_eq_nil_of_le (by omega)]; rfl)
      by_cases h0 : l = []
      · subst h0
        have HZ := Lib.hid (join_nil HJ.out)
        go_wp2_with fail
        go_ret2
        exact ⟨ret_join HZ.out.1 HZ.out.2, HB.out⟩
      · have h1 : 1 ≤ l.length := List.length_pos_iff.2 h0
        have d0 : ((l.length : Int) == 0) = false := by rw [beq_eq_false_iff_ne]; omega
        have H0 := Lib.hid h0
        clear h0
        have HD0 := Lib.hid (Bd.start wr)
        have HB0 := Lib.hid (HB.out.alloc HB.out.size (.cells #[.pointer none, .slice none 0 0] 72))
        have hz : w.heap.size ≤ wr.heap.size := HB.out.size
        go_wp2_with fail
        go_loopw [36] (fun i u => ∃ (q m : Nat), q ≤ l.length ∧ i = .int .i64 q ∧ m ≤ 200 ∧ Hid ((Lex.text (l.take q)).length = m) ∧ Hid (Bd wr.heap.size (Lex.text (l.take q)) u) ∧ Hid (Below w.heap.size w u)) (fun i _ => l.length - (intOf i).toNat)
        case atStart => exact ⟨0, 0, by omega, rfl, by omega, Lib.hid rfl, HD0, HB0⟩
        case round =>
          obtain ⟨q, m, hq, rfl, hm, HM, HD, HBu⟩ := hrel
          by_cases hlt2 : q < l.length
          · obtain ⟨b1, o1, hb1, hix1, hc1⟩ := h.atB HBu.out (P := Try.prog) Try.underlying23 cells33 some33 hlt2
            have e10 := hc1 0 (by omega)
            have e11 := hc1 1 (by omega)
            have e12 := hc1 2 (by omega)
            obtain ⟨⟨K, s, p⟩, HX⟩ : ∃ t, Hid (l[q] = t) := ⟨_, Lib.hid rfl⟩
            have hsl : s.length ≤ 1000 := by have := HS.out _ (List.getElem_mem hlt2); rw [HX.out] at this; exact this
            rw [HX.out] at e10 e11 e12
            simp only [eTk, List.getElem?_cons_zero, List.getElem?_cons_succ, Nat.add_zero] at e10 e11 e12
            clear hc1
            have HL := Lib.hid (fun o n => (HM.out ▸ ((HD.out.alloc o).drewN n).len))
            have hw1 : IntKind.i64.wrap (200 - (m : Int)) = 200 - (m : Int) := IntWalk.i64_in _ (by omega)
            have HST := Lib.hid (Lex.text_step hlt2 HX.out)
            by_cases hbig : 200 < m + s.length
            · have dg : decide (200 - (m : Int) < s.length) = true := decide_eq_true (by omega)
              have HZ := Lib.hid (join_long HJ.out H0.out HOK.out (by
                have := Lex.text_le l (q + 1)
                rw [HST.out, List.length_append, HM.out] at this
                simp only at this; omega))
              go_wp2_with fail
              go_quiet ((go_at_call 39; exact Calls.quiet_of (HL.out _ _)))
              go_wp2_with fail
              go_ret2
              exact ⟨ret_join HZ.out.1 HZ.out.2, below_drewN (HBu.out.alloc HBu.out.size _) _⟩
            · have dg : decide (200 - (m : Int) < s.length) = false := decide_eq_false (by omega)
              have HW := Lib.hid (fun o n => ((HD.out.alloc o).drewN n).write s (by rw [HM.out]; omega))
              have HBn := Lib.hid (fun o n => below_drewN (HBu.out.alloc HBu.out.size o) n)
              go_wp2_with fail
              go_quiet ((go_at_call 39; exact Calls.quiet_of (HL.out _ _)))
              go_wp2_with (go_at_call 40; go_must (refine (HW.out _ _).mono ?_; rintro e w5 ⟨rfl, hd5, hb5⟩; have HD5 := Lib.hid (HST.out ▸ hd5); have HB5 := Lib.hid ((HBn.out _ _).trans (hb5.mono hz)); clear hd5 hb5))
              go_roundw
              case rel => exact ⟨q + 1, m + s.length, by omega, by go_num, by omega, Lib.hid (by rw [HST.out, List.length_append, HM.out]), HD5, HB5⟩
              case measure => simp [intOf] <;> omega
          · have HZ := Lib.hid (join_good HJ.out H0.out HOK.out (by rw [← List.take_of_length_le (l := l) (i := q) (by omega), HM.out]; omega))
            have HSt := Lib.hid ((List.take_of_length_le (l := l) (i := q) (by omega)) ▸ HD.out.string)
            go_wp2_with (go_at_call 41; go_must (refine HSt.out.mono ?_; rintro e w6 ⟨rfl, hb6⟩; have HB6 := Lib.hid (HBu.out.trans (hb6.mono hz)); clear hb6))
            go_ret2
            exact ⟨ret_join HZ.out.1 HZ.out.2, HB6.out⟩
end Go.Proofs.Ytolahnnkdpbdfaa
