/-
  BloomHashes and BloomAsks: what the program answers, the document's. No condition besides what the arguments are.
-/
import Derived.Test.YtopamnfelngkcaaW12
import Derived.Test.YtopamnfelngkcaaW3
import Derived.Test.YtopamnfelngkcaaW6
namespace Go.Proofs.Ytopamnfelngkcaa
open Go.Proofs Go.RowKit Go.Shelf Go.Sl Go.Bl
set_option linter.unusedVariables false

set_option maxRecDepth 100000 in
set_option maxHeartbeats 1000000 in
theorem bloomHashes_any (X : Int) (hX : 0 ≤ X ∧ X < 4294967296) (l : List UInt8) (w : World) (hl : l.length ≤ 9223372036854775807) :
    Calls Try.prog 3 #[.int .u32 X, .string (bstr l)] w fun e w' => e = .returned (.bool true) ∧ Below w.heap.size w w' := by
  by_cases h : 2000 < l.length
  · have d1 : decide ((2000 : Int) < l.length) = true := decide_eq_true (by omega)
    go_enter Try.func3, Try.ntmps3
    go_wp2_with fail
    refine (works_any w).mono ?_
    rintro e w1 ⟨rfl, hb⟩
    have HW := Lib.hid hb
    clear hb
    go_wp2_with fail
    go_ret
    exact ⟨rfl, HW.out⟩
  · have d1 : decide ((2000 : Int) < l.length) = false := decide_eq_false (by omega)
    obtain ⟨seed, hsd⟩ : ∃ seed : BitVec 32, Go.Bl.u32 seed = X := ⟨BitVec.ofInt 32 X, by unfold Go.Bl.u32; rw [BitVec.toNat_ofInt]; omega⟩
    obtain ⟨R, hR⟩ : ∃ R, Hid (Go.Bl.u32 (hash seed l) = R) := ⟨_, Lib.hid rfl⟩
    have HA := Lib.hid (fun u => hash_any hsd l (by omega) hR.out u)
    have HB := Lib.hid (fun u => rhash_any hsd l (by omega) hR.out u)
    clear hsd
    go_enter Try.func3, Try.ntmps3
    go_wp2_with fail
    refine (HA.out w).mono ?_
    rintro e w1 ⟨rfl, hb⟩
    have HW1 := Lib.hid (Dn.below (B := w.heap.size) hb)
    clear HA hb
    go_wp2_with fail
    refine (HB.out w1).mono ?_
    rintro e w2 ⟨rfl, hb⟩
    have HW2 := Lib.hid (bthen HW1.out hb)
    clear HB hb
    go_wp2_with fail
    refine (works_any w2).mono ?_
    rintro e w3 ⟨rfl, hb⟩
    have HW3 := Lib.hid (bthen HW2.out hb)
    clear hb
    go_wp2_with fail
    go_ret
    exact ⟨rfl, HW3.out⟩

set_option maxRecDepth 100000 in
set_option maxHeartbeats 1000000 in
theorem bloomAsks_any (v : Value) (f l : List UInt8) (w : World) (hv : Sl eByte 1 w v f) (hl : l.length ≤ 9223372036854775807) :
    Calls Try.prog 5 #[v, .string (bstr l)] w fun e w' => e = .returned (.bool true) ∧ Below w.heap.size w w' := by
  have hlen := hv.run_len (P := Try.prog) Try.underlying28
  have hfm := hv.len_le
  have HV := Lib.hid hv
  clear hv
  by_cases h : f.length ≤ 1000 ∧ l.length ≤ 200
  · obtain ⟨hf, hl2⟩ := h
    have d1 : decide ((1000 : Int) < f.length) = false := decide_eq_false (by omega)
    have d2 : decide ((200 : Int) < l.length) = false := decide_eq_false (by omega)
    obtain ⟨C, hC⟩ : ∃ C : Nat, Hid (cntF f (8 * f.length) = C) := ⟨_, Lib.hid rfl⟩
    obtain ⟨Y, hY⟩ : ∃ Y : Bool, Hid (hasF f l = Y) := ⟨_, Lib.hid rfl⟩
    have hYY : (Y == Y) = true := by simp
    go_enter Try.func5, Try.ntmps5
    go_wp2_with fail
    go_loopw [5, 6] (fun n i wr => ∃ (k c : Nat), i = .int .i64 k ∧ n = .int .i64 c ∧ k ≤ 8 * f.length ∧ Hid (cntF f k = c) ∧ c ≤ k ∧ Hid (wr = w)) (fun _ i _ => 8 * f.length - (intOf i).toNat)
    case atStart => exact ⟨0, 0, rfl, rfl, by omega, Lib.hid rfl, by omega, Lib.hid rfl⟩
    case round =>
      obtain ⟨k, c, rfl, rfl, hk, hc, hck, HW⟩ := hrel
      obtain rfl := HW.out
      by_cases hlt : k < 8 * f.length
      · have d3 : decide ((k : Int) < 8 * (f.length : Int)) = true := decide_eq_true (by omega)
        have HB := Lib.hid (rbit_any v f k wr HV.out (by omega) (by omega))
        have HS := Lib.hid (cntF_succ f k)
        go_wp2_with fail
        refine HB.out.mono ?_
        rintro e w2 ⟨rfl, rfl⟩
        clear HB
        cases hb : bitF f k with
        | true =>
          have HN : Hid (cntF f (k + 1) = c + 1) := Lib.hid (by rw [HS.out, hb, hc.out]; rfl)
          clear hb HS
          go_wp2_with fail
          go_roundw
          case rel => exact ⟨k + 1, c + 1, by go_num, by go_num, by omega, HN, by omega, by first | exact Lib.hid rfl | exact Lib.hid trivial⟩
          case measure => simp [intOf]; omega
        | false =>
          have HN : Hid (cntF f (k + 1) = c) := Lib.hid (by rw [HS.out, hb, hc.out]; rfl)
          clear hb HS
          go_wp2_with fail
          go_roundw
          case rel => exact ⟨k + 1, c, by go_num, rfl, by omega, HN, by omega, by first | exact Lib.hid rfl | exact Lib.hid trivial⟩
          case measure => simp [intOf]; omega
      · obtain rfl : k = 8 * f.length := by omega
        have d3 : decide (((8 * f.length : Nat) : Int) < 8 * (f.length : Int)) = false := decide_eq_false (by omega)
        have hCc : C = c := by rw [← hC.out, hc.out]
        subst hCc
        have hcc : ((C : Int) == (C : Int)) = true := by simp
        go_wp2_with fail
        refine (has_any v f l wr HV.out hf (by omega)).mono ?_
        rintro e w2 ⟨rfl, hb⟩
        rw [hY.out]
        have HW2 := Lib.hid hb
        clear hb
        go_wp2_with fail
        refine (rhas_any v f l w2 (HV.out.ext HW2.out) hf (by omega)).mono ?_
        rintro e w3 ⟨rfl, hb⟩
        rw [hY.out]
        have HW3 := Lib.hid (bthen HW2.out hb)
        clear hb
        go_wp2_with fail
        refine (bits_any v f w3 (HV.out.ext HW3.out) (by omega)).mono ?_
        rintro e w4 ⟨rfl, rfl⟩
        rw [hC.out]
        go_wp2_with fail
        refine (works_any w3).mono ?_
        rintro e w5 ⟨rfl, hb⟩
        have HW5 := Lib.hid (bthen HW3.out hb)
        clear hb
        go_wp2_with fail
        go_ret
        exact ⟨rfl, HW5.out⟩
  · by_cases hf : 1000 < f.length
    · have d1 : decide ((1000 : Int) < f.length) = true := decide_eq_true (by omega)
      go_enter Try.func5, Try.ntmps5
      go_wp2_with fail
      refine (works_any w).mono ?_
      rintro e w1 ⟨rfl, hb⟩
      have HW := Lib.hid hb
      clear hb
      go_wp2_with fail
      go_ret
      exact ⟨rfl, HW.out⟩
    · have d1 : decide ((1000 : Int) < f.length) = false := decide_eq_false (by omega)
      have d2 : decide ((200 : Int) < l.length) = true := decide_eq_true (by omega)
      go_enter Try.func5, Try.ntmps5
      go_wp2_with fail
      refine (works_any w).mono ?_
      rintro e w1 ⟨rfl, hb⟩
      have HW := Lib.hid hb
      clear hb
      go_wp2_with fail
      go_ret
      exact ⟨rfl, HW.out⟩
end Go.Proofs.Ytopamnfelngkcaa
