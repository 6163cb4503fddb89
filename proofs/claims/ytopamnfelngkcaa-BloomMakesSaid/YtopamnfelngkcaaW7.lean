/-
  Layer 16: the document's Has; Bits; whether the keys are large; bytes compared. No condition besides what the arguments are.
-/
import Derived.Test.YtopamnfelngkcaaW6
namespace Go.Proofs.Ytopamnfelngkcaa
open Go.Proofs Go.RowKit Go.Sl Go.Bl
set_option linter.unusedVariables false

theorem plcI7_len (l : List UInt8) (many : Nat) : (plcI7 l many).length = 7 := by simp [plcI7]
set_option maxRecDepth 100000 in
set_option maxHeartbeats 1000000 in
theorem rhas_any (v : Value) (f l : List UInt8) (w : World) (hv : Sl eByte 1 w v f) (hf : f.length ≤ 1000) (hl : l.length ≤ 100000) :
    Calls Try.prog 16 #[v, .string (bstr l)] w fun e w' => e = .returned (.bool (hasF f l)) ∧ Below w.heap.size w w' := by
  have hlen := hv.run_len (P := Try.prog) Try.underlying28
  have HV := Lib.hid hv
  by_cases h0 : f = []
  · subst h0
    have HE : Hid (hasF [] l = true) := Lib.hid rfl
    clear hv
    go_enter Try.func16, Try.ntmps16
    go_wp2_with fail
    go_ret
    exact ⟨by rw [HE.out]; rfl, Below.refl _ _⟩
  · have hpos : 0 < f.length := List.length_pos_iff.2 h0
    have hz : ((f.length : Int) == 0) = false := by rw [beq_eq_false_iff_ne]; omega
    have HP := Lib.hid (rplaces_any l hl (8 * f.length) (by omega) (by omega) w)
    rw [show ((8 * f.length : Nat) : Int) = 8 * (f.length : Int) by omega] at HP
    have HD : Hid (hasF f l = (List.range 7).all (fun i => bitF f (plc l (8 * f.length) i))) := Lib.hid (by
      unfold hasF; rw [List.isEmpty_eq_false_iff.2 h0, Bool.false_or])
    clear hv h0
    go_enter Try.func16, Try.ntmps16
    go_wp2_with fail
    refine HP.out.mono ?_
    rintro e w1 ⟨pv, rfl, ho, hb⟩
    have HB1 := Lib.hid hb
    have HS := Lib.hid (ho.sl len_eInt)
    have hl1 := (ho.sl len_eInt).run_len (P := Try.prog) Try.underlying40
    rw [plcI7_len] at hl1
    clear ho hb HP
    go_wp2_with fail
    go_loopw [6] (fun i wr => ∃ (k : Nat), i = .int .i64 k ∧ k ≤ 7 ∧ Hid (∀ i, i < k → bitF f (plc l (8 * f.length) i) = true) ∧ Hid (wr = w1)) (fun i _ => 7 - (intOf i).toNat)
    case atStart => exact ⟨0, rfl, by omega, Lib.hid (fun i h => by omega), Lib.hid rfl⟩
    case round =>
      obtain ⟨k, rfl, hk, HA, HW⟩ := hrel
      obtain rfl := HW.out
      by_cases hlt : k < 7
      · obtain ⟨b5, o5, hb5, hix, hcell⟩ := HS.out.at (P := Try.prog) Try.underlying40 cells3 some3 (k := k) (by rw [plcI7_len]; exact hlt)
        have e1 := hcell 0 (by omega)
        simp only [eInt, List.getElem?_cons_zero, Nat.add_zero] at e1
        have hel : (plcI7 l (8 * f.length))[k]'(by rw [plcI7_len]; exact hlt) = (plc l (8 * f.length) k : Int) := by simp [plcI7]
        rw [hel] at e1
        obtain ⟨P, hP⟩ : ∃ P, Hid (plc l (8 * f.length) k = P) := ⟨_, Lib.hid rfl⟩
        have hPm : P < 8 * f.length := by rw [← hP.out]; exact Nat.mod_lt _ (by omega)
        rw [hP.out] at e1
        have HBt := Lib.hid (rbit_any v f P wr (HV.out.ext HB1.out) (by omega) (by omega))
        obtain ⟨b, hb⟩ : ∃ b, Hid (bitF f P = b) := ⟨_, Lib.hid rfl⟩
        rw [hb.out] at HBt
        clear hcell hel
        go_wp2_with fail
        refine HBt.out.mono ?_
        rintro e w2 ⟨rfl, rfl⟩
        clear HBt
        cases b with
        | true =>
          have HA2 : Hid (∀ i, i < k + 1 → bitF f (plc l (8 * f.length) i) = true) := Lib.hid (fun i hi => by
            by_cases e : i = k
            · subst e; rw [hP.out]; exact hb.out
            · exact HA.out i (by omega))
          go_wp2_with fail
          go_roundw
          case rel => exact ⟨k + 1, by go_num, by omega, HA2, by first | exact Lib.hid rfl | exact Lib.hid trivial⟩
          case measure => simp [intOf]; omega
        | false =>
          have HE : Hid (hasF f l = false) := Lib.hid (by
            rw [HD.out, List.all_eq_false]
            exact ⟨k, List.mem_range.2 hlt, by rw [hP.out, hb.out]; simp⟩)
          go_wp2_with fail
          go_ret
          exact ⟨by rw [HE.out]; rfl, HB1.out⟩
      · obtain rfl : k = 7 := by omega
        have HE : Hid (hasF f l = true) := Lib.hid (by
          rw [HD.out, List.all_eq_true]
          exact fun i hi => HA.out i (List.mem_range.1 hi))
        go_wp2_with fail
        go_ret
        exact ⟨by rw [HE.out]; rfl, HB1.out⟩

theorem Lones_le (c : UInt8) : Lib.onesCount c.toNat ≤ 8 := by
  rw [ones_byte]
  have := List.length_filter_le (bitN c) (List.range 8)
  simpa using this
set_option maxRecDepth 100000 in
set_option maxHeartbeats 1000000 in
theorem bits_any (v : Value) (f : List UInt8) (w : World) (hv : Sl eByte 1 w v f) (hf : f.length ≤ 100000) :
    Calls Try.prog 17 #[v] w fun e w' => e = .returned (.int .i64 (cntF f (8 * f.length) : Nat)) ∧ w = w' := by
  have hlen := hv.run_len (P := Try.prog) Try.underlying28
  go_enter Try.func17, Try.ntmps17
  go_wp2_with fail
  go_loopw [3, 8] (fun n i wr => ∃ (k : Nat) (C : Int), i = .int .i64 k ∧ k ≤ f.length ∧ n = .int .i64 C ∧ Hid (C = (cntF f (8 * k) : Nat)) ∧ Hid (wr = w)) (fun _ i _ => f.length - (intOf i).toNat)
  case atStart => exact ⟨0, _, rfl, by omega, rfl, Lib.hid rfl, Lib.hid rfl⟩
  case round =>
    obtain ⟨k, C, rfl, hk, rfl, hC, HW⟩ := hrel
    obtain rfl := HW.out
    by_cases hlt : k < f.length
    · obtain ⟨b5, o5, hb5, hix, hcell⟩ := hv.at (P := Try.prog) Try.underlying28 cells5 some5 hlt
      have e1 := hcell 0 (by omega)
      simp only [eByte, List.getElem?_cons_zero, Nat.add_zero] at e1
      obtain ⟨cb, hcb⟩ : ∃ cb, f[k] = cb := ⟨_, rfl⟩
      rw [hcb] at e1
      have hc := cb.toNat_lt
      have HO := Lib.hid (Try.bits_OnesCount8 (cb.toNat : Int) wr (by omega) (by omega))
      rw [Int.toNat_natCast] at HO
      obtain ⟨n, hn⟩ : ∃ n, Hid (Lib.onesCount cb.toNat = n) := ⟨_, Lib.hid rfl⟩
      have hn8 : n ≤ 8 := by rw [← hn.out]; exact Lones_le cb
      have HN : Hid (C + (n : Int) = (cntF f (8 * (k + 1)) : Nat)) := Lib.hid (by
        rw [cntF_byte, hC.out, List.getD_eq_getElem?_getD, List.getElem?_eq_getElem hlt, hcb]
        show _ = ((cntF f (8 * k) + Lib.onesCount cb.toNat : Nat) : Int)
        rw [hn.out]; omega)
      have hC2 : 0 ≤ C ∧ C ≤ 800000 := by have := hC.out; have := cntF_le f (8 * k); omega
      have hwr : IntKind.i64.wrap (C + (n : Int)) = C + (n : Int) := by rw [IntKind.wrap_i64]; omega
      rw [hn.out] at HO
      clear hcell hcb
      go_wp2_with fail
      refine HO.out.mono ?_
      rintro e w2 ⟨rfl, rfl⟩
      clear HO
      go_wp2_with fail
      go_roundw
      case rel => exact ⟨k + 1, _, by go_num, by omega, rfl, HN, by first | exact Lib.hid rfl | exact Lib.hid trivial⟩
      case measure => simp [intOf]; omega
    · obtain rfl : k = f.length := by omega
      go_wp2_with fail
      go_ret
      exact ⟨by rw [← hC.out]; rfl, rfl⟩
end Go.Proofs.Ytopamnfelngkcaa
