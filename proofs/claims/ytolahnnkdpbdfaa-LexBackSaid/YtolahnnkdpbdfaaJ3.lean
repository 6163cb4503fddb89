/-
  Walks of layer 27: Join, the reference's. Tokens are bounded in number and length.
-/
import Derived.Test.YtolahnnkdpbdfaaJ2
namespace Go.Proofs.Ytolahnnkdpbdfaa
open Go.RowKit Go.Sl

set_option maxRecDepth 100000 in
set_option maxHeartbeats 4000000 in
theorem rjoin_any (v : Value) (l : List Lex.Tk) (x : List UInt8) (e : Nat) (hj : Lex.join l = (x, e)) (w : World) (h : Sl eTk 3 w v l) (hlen : l.length ≤ 1000) (hs : ∀ t ∈ l, t.2.1.length ≤ 1000) :
    Calls Try.prog 21 #[v] w fun e' w' => e' = .returned (.tuple #[.string (bstr x), .int .i64 (e : Nat)]) ∧ Below w.heap.size w w' := by
  have hln := h.run_len (P := Try.prog) Try.underlying27
  have HJ := Lib.hid hj
  have HS := Lib.hid hs
  clear hj hs
  by_cases h0 : l = []
  · subst h0
    have HZ := Lib.hid (join_nil HJ.out)
    go_enter Try.func21, Try.ntmps21
    go_wp2_with fail
    go_ret2
    exact ⟨ret_join HZ.out.1 HZ.out.2, Below.refl _ _⟩
  · have h1 : 1 ≤ l.length := List.length_pos_iff.2 h0
    have d0 : ((l.length : Int) == 0) = false := by rw [beq_eq_false_iff_ne]; omega
    have H0 := Lib.hid h0
    clear h0
    go_enter Try.func21, Try.ntmps21
    go_wp2_with fail
    go_loopw [4, 5, 6] (fun c g i wr => ∃ (k : Nat) (a : List UInt8) (lg : Bool), k ≤ l.length ∧ i = .int .i64 k ∧ c = .string (bstr a) ∧ g = .bool lg ∧ a.length ≤ 2000 ∧ Hid (Lex.okG l = Lex.okG (l.drop k)) ∧
      Hid (lg = true → 200 < (Lex.text (l.take k)).length) ∧ Hid (lg = false → a = Lex.text (l.take k) ∧ a.length ≤ 200) ∧ Hid (Below w.heap.size w wr)) (fun _ _ i _ => l.length - (intOf i).toNat)
    case atStart => exact ⟨0, [], false, by omega, rfl, rfl, rfl, by simp, Lib.hid (by simp), Lib.hid (fun h => by cases h), Lib.hid (fun _ => ⟨rfl, by simp⟩), Lib.hid (Below.refl _ _)⟩
    case round =>
      obtain ⟨k, a, lg, hk, rfl, rfl, rfl, hal, HT, HG1, HG2, HB⟩ := hrel
      by_cases hlt : k < l.length
      · obtain ⟨b1, o1, hb1, hix1, hc1⟩ := h.at (P := Try.prog) Try.underlying27 cells38 some38 hlt
        obtain ⟨⟨K, s, p⟩, HX⟩ : ∃ t, Hid (l[k] = t) := ⟨_, Lib.hid rfl⟩
        have hsl : s.length ≤ 1000 := by have := HS.out _ (List.getElem_mem hlt); rw [HX.out] at this; exact this
        have HC : Hid (w.cell? ⟨b1, o1, none⟩ = some (.int .i64 K) ∧ w.cell? ⟨b1, o1 + 1, none⟩ = some (.string (bstr s)) ∧ w.cell? ⟨b1, o1 + 2, none⟩ = some (.int .i64 p)) := Lib.hid (by
          have e10 := hc1 0 (by omega)
          have e11 := hc1 1 (by omega)
          have e12 := hc1 2 (by omega)
          rw [HX.out] at e10 e11 e12
          exact ⟨e10, e11, e12⟩)
        clear hc1
        have x0 := (HB.out.cell (p := ⟨b1, o1, none⟩) hb1).trans HC.out.1
        have x1 := (HB.out.cell (p := ⟨b1, o1 + 1, none⟩) hb1).trans HC.out.2.1
        have x2 := (HB.out.cell (p := ⟨b1, o1 + 2, none⟩) hb1).trans HC.out.2.2
        obtain ⟨r, hr⟩ : ∃ r, Lex.right K s p = r := ⟨_, rfl⟩
        have hr2 : Lex.rright K s p = r := by rw [← Lex.right_same]; exact hr
        have HR := Lib.hid (fun u => rright_any K s p r hr2 u (by omega))
        have HO := Lib.hid (show Lex.okG l = ((r && (decide (K = 9) == decide (k + 1 = l.length))) && Lex.okG (l.drop (k + 1))) by rw [HT.out, Lex.okG_step hlt HX.out, Lex.okTk, hr])
        have HST := Lib.hid (Lex.text_step hlt HX.out)
        clear hr hr2
        cases r with
        | false =>
          have HZ := Lib.hid (join_bad HJ.out (by rw [HO.out]; simp))
          go_wp2_with (go_at_call 19; go_must (refine (HR.out _).mono ?_; rintro e w3 ⟨rfl, hb3⟩; have HB3 := Lib.hid (HB.out.trans (hb3.mono HB.out.size)); have y0 := (HB3.out.cell (p := ⟨b1, o1, none⟩) hb1).trans HC.out.1; have y1 := (HB3.out.cell (p := ⟨b1, o1 + 1, none⟩) hb1).trans HC.out.2.1; clear hb3))
          go_ret2
          exact ⟨ret_join HZ.out.1 HZ.out.2, HB3.out⟩
        | true =>
          by_cases hK : K = 9
          · have dK : (K == 9) = true := beq_iff_eq.2 hK
            by_cases hl : k + 1 = l.length
            · have dl : ((k : Int) == (l.length : Int) - 1) = true := by rw [beq_iff_eq]; omega
              have HT2 : Hid (Lex.okG l = Lex.okG (l.drop (k + 1))) := Lib.hid (by rw [HO.out, decide_eq_true hK, decide_eq_true hl]; simp)
              clear hK
              cases lg with
              | true =>
                have HN := Lib.hid (show 200 < (Lex.text (l.take (k + 1))).length by rw [HST.out, List.length_append]; have := HG1.out rfl; omega)
                go_wp2_with (go_at_call 19; go_must (refine (HR.out _).mono ?_; rintro e w3 ⟨rfl, hb3⟩; have HB3 := Lib.hid (HB.out.trans (hb3.mono HB.out.size)); have y0 := (HB3.out.cell (p := ⟨b1, o1, none⟩) hb1).trans HC.out.1; have y1 := (HB3.out.cell (p := ⟨b1, o1 + 1, none⟩) hb1).trans HC.out.2.1; clear hb3))
                go_roundw
                case rel => exact ⟨k + 1, a, true, by omega, by go_num, rfl, rfl, hal, HT2, Lib.hid (fun _ => HN.out), Lib.hid (fun h => by cases h), HB3⟩
                case measure => simp [intOf] <;> omega
              | false =>
                have hla := (HG2.out rfl).2
                by_cases hbig : 200 < a.length + s.length
                · have dg : decide ((200 : Int) < a.length + s.length) = true := decide_eq_true (by omega)
                  have HN := Lib.hid (show 200 < (Lex.text (l.take (k + 1))).length by rw [HST.out, List.length_append, ← (HG2.out rfl).1]; exact hbig)
                  go_wp2_with (go_at_call 19; go_must (refine (HR.out _).mono ?_; rintro e w3 ⟨rfl, hb3⟩; have HB3 := Lib.hid (HB.out.trans (hb3.mono HB.out.size)); have y0 := (HB3.out.cell (p := ⟨b1, o1, none⟩) hb1).trans HC.out.1; have y1 := (HB3.out.cell (p := ⟨b1, o1 + 1, none⟩) hb1).trans HC.out.2.1; clear hb3))
                  go_roundw
                  case rel => exact ⟨k + 1, a ++ s, true, by omega, by go_num, rfl, rfl, by simp; omega, HT2, Lib.hid (fun _ => HN.out), Lib.hid (fun h => by cases h), HB3⟩
                  case measure => simp [intOf] <;> omega
                · have dg : decide ((200 : Int) < a.length + s.length) = false := decide_eq_false (by omega)
                  have HN := Lib.hid (show a ++ s = Lex.text (l.take (k + 1)) by rw [HST.out, ← (HG2.out rfl).1])
                  go_wp2_with (go_at_call 19; go_must (refine (HR.out _).mono ?_; rintro e w3 ⟨rfl, hb3⟩; have HB3 := Lib.hid (HB.out.trans (hb3.mono HB.out.size)); have y0 := (HB3.out.cell (p := ⟨b1, o1, none⟩) hb1).trans HC.out.1; have y1 := (HB3.out.cell (p := ⟨b1, o1 + 1, none⟩) hb1).trans HC.out.2.1; clear hb3))
                  go_roundw
                  case rel => exact ⟨k + 1, a ++ s, false, by omega, by go_num, rfl, rfl, by simp; omega, HT2, Lib.hid (fun h => by cases h), Lib.hid (fun _ => ⟨HN.out, by simp; omega⟩), HB3⟩
                  case measure => simp [intOf] <;> omega
            · have dl : ((k : Int) == (l.length : Int) - 1) = false := by rw [beq_eq_false_iff_ne]; omega
              have HZ := Lib.hid (join_bad HJ.out (by rw [HO.out, decide_eq_true hK, decide_eq_false hl]; simp))
              clear hK
              go_wp2_with (go_at_call 19; go_must (refine (HR.out _).mono ?_; rintro e w3 ⟨rfl, hb3⟩; have HB3 := Lib.hid (HB.out.trans (hb3.mono HB.out.size)); have y0 := (HB3.out.cell (p := ⟨b1, o1, none⟩) hb1).trans HC.out.1; have y1 := (HB3.out.cell (p := ⟨b1, o1 + 1, none⟩) hb1).trans HC.out.2.1; clear hb3))
              go_ret2
              exact ⟨ret_join HZ.out.1 HZ.out.2, HB3.out⟩
          · have dK : (K == 9) = false := beq_eq_false_iff_ne.2 hK
            by_cases hl : k + 1 = l.length
            · have dl : ((k : Int) == (l.length : Int) - 1) = true := by rw [beq_iff_eq]; omega
              have HZ := Lib.hid (join_bad HJ.out (by rw [HO.out, decide_eq_false hK, decide_eq_true hl]; simp))
              clear hK
              go_wp2_with (go_at_call 19; go_must (refine (HR.out _).mono ?_; rintro e w3 ⟨rfl, hb3⟩; have HB3 := Lib.hid (HB.out.trans (hb3.mono HB.out.size)); have y0 := (HB3.out.cell (p := ⟨b1, o1, none⟩) hb1).trans HC.out.1; have y1 := (HB3.out.cell (p := ⟨b1, o1 + 1, none⟩) hb1).trans HC.out.2.1; clear hb3))
              go_ret2
              exact ⟨ret_join HZ.out.1 HZ.out.2, HB3.out⟩
            · have dl : ((k : Int) == (l.length : Int) - 1) = false := by rw [beq_eq_false_iff_ne]; omega
              have HT2 : Hid (Lex.okG l = Lex.okG (l.drop (k + 1))) := Lib.hid (by rw [HO.out, decide_eq_false hK, decide_eq_false hl]; simp)
              clear hK
              cases lg with
              | true =>
                have HN := Lib.hid (show 200 < (Lex.text (l.take (k + 1))).length by rw [HST.out, List.length_append]; have := HG1.out rfl; omega)
                go_wp2_with (go_at_call 19; go_must (refine (HR.out _).mono ?_; rintro e w3 ⟨rfl, hb3⟩; have HB3 := Lib.hid (HB.out.trans (hb3.mono HB.out.size)); have y0 := (HB3.out.cell (p := ⟨b1, o1, none⟩) hb1).trans HC.out.1; have y1 := (HB3.out.cell (p := ⟨b1, o1 + 1, none⟩) hb1).trans HC.out.2.1; clear hb3))
                go_roundw
                case rel => exact ⟨k + 1, a, true, by omega, by go_num, rfl, rfl, hal, HT2, Lib.hid (fun _ => HN.out), Lib.hid (fun h => by cases h), HB3⟩
                case measure => simp [intOf] <;> omega
              | false =>
                have hla := (HG2.out rfl).2
                by_cases hbig : 200 < a.length + s.length
                · have dg : decide ((200 : Int) < a.length + s.length) = true := decide_eq_true (by omega)
                  have HN := Lib.hid (show 200 < (Lex.text (l.take (k + 1))).length by rw [HST.out, List.length_append, ← (HG2.out rfl).1]; exact hbig)
                  go_wp2_with (go_at_call 19; go_must (refine (HR.out _).mono ?_; rintro e w3 ⟨rfl, hb3⟩; have HB3 := Lib.hid (HB.out.trans (hb3.mono HB.out.size)); have y0 := (HB3.out.cell (p := ⟨b1, o1, none⟩) hb1).trans HC.out.1; have y1 := (HB3.out.cell (p := ⟨b1, o1 + 1, none⟩) hb1).trans HC.out.2.1; clear hb3))
                  go_roundw
                  case rel => exact ⟨k + 1, a ++ s, true, by omega, by go_num, rfl, rfl, by simp; omega, HT2, Lib.hid (fun _ => HN.out), Lib.hid (fun h => by cases h), HB3⟩
                  case measure => simp [intOf] <;> omega
                · have dg : decide ((200 : Int) < a.length + s.length) = false := decide_eq_false (by omega)
                  have HN := Lib.hid (show a ++ s = Lex.text (l.take (k + 1)) by rw [HST.out, ← (HG2.out rfl).1])
                  go_wp2_with (go_at_call 19; go_must (refine (HR.out _).mono ?_; rintro e w3 ⟨rfl, hb3⟩; have HB3 := Lib.hid (HB.out.trans (hb3.mono HB.out.size)); have y0 := (HB3.out.cell (p := ⟨b1, o1, none⟩) hb1).trans HC.out.1; have y1 := (HB3.out.cell (p := ⟨b1, o1 + 1, none⟩) hb1).trans HC.out.2.1; clear hb3))
                  go_roundw
                  case rel => exact ⟨k + 1, a ++ s, false, by omega, by go_num, rfl, rfl, by simp; omega, HT2, Lib.hid (fun h => by cases h), Lib.hid (fun _ => ⟨HN.out, by simp; omega⟩), HB3⟩
                  case measure => simp [intOf] <;> omega
      · have HOK : Hid (Lex.okG l = true) := Lib.hid (by rw [HT.out, List.drop_eq_nil_of_le (by omega)]; rfl)
        have htk : l.take k = l := List.take_of_length_le (by omega)
        have HTK := Lib.hid htk
        clear htk
        cases lg with
        | true =>
          have HZ := Lib.hid (join_long HJ.out H0.out HOK.out (by have := HG1.out rfl; rw [HTK.out] at this; exact this))
          go_wp2_with fail
          go_ret2
          exact ⟨ret_join HZ.out.1 HZ.out.2, HB.out⟩
        | false =>
          have HZ := Lib.hid (join_good HJ.out H0.out HOK.out (by have := HG2.out rfl; rw [HTK.out] at this; rw [← this.1]; omega))
          have HA := Lib.hid (show a = Lex.text l by have := HG2.out rfl; rw [HTK.out] at this; exact this.1)
          go_wp2_with fail
          go_ret2
          exact ⟨ret_join (by rw [HA.out]; exact HZ.out.1) HZ.out.2, HB.out⟩
end Go.Proofs.Ytolahnnkdpbdfaa
